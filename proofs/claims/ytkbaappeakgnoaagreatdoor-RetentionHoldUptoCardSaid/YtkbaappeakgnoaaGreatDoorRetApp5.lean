/- retention.Apply at hold and release entries. -/
import Derived.Test.YtkbaappeakgnoaaGreatDoorRetApply
import Derived.Test.YtkbaappeakgnoaaGreatDoorRetInsA
import Derived.Test.YtkbaappeakgnoaaGreatDoorRetCmp
import Derived.Test.YtkbaappeakgnoaaGreatDoorRetDate
namespace Go.Proofs.YtkbaappeakgnoaaGreatDoor
open Go.RowKit
open Go.Lib hiding intOf
open Dec
set_option linter.unusedVariables false
set_option linter.unusedSimpArgs false

/-- the latest date of the holds at p, and u -/
def untilA (p : ByteArray) (l : List Hold) (u : Int) : Int := l.foldl (fun u h => if notAt p h = true then u else max u h.2) u
theorem untilA_snoc (p : ByteArray) (l : List Hold) (h : Hold) (u : Int) : untilA p (l ++ [h]) u = if notAt p h = true then untilA p l u else max (untilA p l u) h.2 := by
  unfold untilA
  rw [List.foldl_append]
  rfl
set_option maxHeartbeats 6400000 in
set_option maxRecDepth 100000 in
theorem applyHold_any (p : ByteArray) (dn : Nat) (a2 a4 a5 a6 : Value) (date : Int) (A : Option Addr) (n cap : Nat) (l : List Hold) (w : World) (hl : HLst w A n cap l) (hn : n ≤ 100) (hdn : dn ≤ 1000000000) (hp : p.size < 4294967281) (hs : Short l) (hE : Env w) :
    Calls Tryz.prog 10 #[.slice A n cap, .agg #[.int .i64 5, .string p, a2, .string (BY (decDigits dn)), a4, a5, a6], .int .i64 date] w fun e w' =>
      ∃ (B : Option Addr) (c at_ : Nat), at_ ≤ ((l.filter (inForce date)).filter (notAt p)).length ∧ e = .returned (.tuple #[.slice B (((l.filter (inForce date)).filter (notAt p)).length + 1) c, .int .i64 0]) ∧
        HLst w' B (((l.filter (inForce date)).filter (notAt p)).length + 1) c (((l.filter (inForce date)).filter (notAt p)).take at_ ++ [(p, untilA p (l.filter (inForce date)) dn)] ++ ((l.filter (inForce date)).filter (notAt p)).drop at_) ∧ Ext w w' := by
  have hact := fun W (hW : HLst W A n cap l) => active_any date A n cap l W hW (by omega)
  have hlen := hl.len
  have hfl := List.length_filter_le (inForce date) l
  have hsh : Short (l.filter (inForce date)) := fun h hh => hs h (List.mem_filter.1 hh).1
  generalize l.filter (inForce date) = m at *
  have hmr : m.length * 24 ≤ 140737488351232 := by omega
  have hml : m.length ≤ 100 := by omega
  have hrl := List.length_filter_le (notAt p) m
  have hshr : Short (m.filter (notAt p)) := fun h hh => hsh h (List.mem_filter.1 hh).1
  obtain ⟨R, hR⟩ : ∃ R, R = m.filter (notAt p) := ⟨_, rfl⟩
  rw [← hR] at hrl hshr ⊢
  have HR := Lib.hid hR
  have hrl2 : R.length ≤ 100 := by omega
  have HACT := Lib.hid hact
  have HSH := Lib.hid hshr
  obtain ⟨D, hD⟩ : ∃ D, D = BY (decDigits dn) := ⟨_, rfl⟩
  have HDA := Lib.hid (fun W => dateOf_any dn W hdn)
  rw [← hD] at HDA ⊢
  obtain ⟨w1, hw1⟩ : ∃ W, W = w.alloc (.cells #[.int .i64 5, .string p, a2, .string D, a4, a5, a6] 32) := ⟨_, rfl⟩
  have hx0 : Ext w w1 := by rw [hw1]; exact (Ext.refl w).alloc _
  have hb0 : w1.heap[w.heap.size]? = some (.cells #[.int .i64 5, .string p, a2, .string D, a4, a5, a6] 32 (0, 0)) := by rw [hw1]; exact heap_alloc_new w _
  obtain ⟨b, hb⟩ : ∃ b, b = w.heap.size := ⟨_, rfl⟩
  rw [← hb] at hb0
  have HW1 := Lib.hid hw1
  have HB := Lib.hid hb
  have HCE : Hid (∀ W, Ext w1 W → W.cell? ⟨b, 0, none⟩ = some (.int .i64 5) ∧ W.cell? ⟨b, 1, none⟩ = some (.string p) ∧ W.cell? ⟨b, 3, none⟩ = some (.string D)) := fun W hW => ⟨hW.cell (by simp [World.cell?, hb0]), hW.cell (by simp [World.cell?, hb0]), hW.cell (by simp [World.cell?, hb0])⟩
  have HX0 := Lib.hid hx0
  have HL := Lib.hid hl
  have HE := Lib.hid hE
  clear hact hR hD hfl hlen hsh hshr hx0 hb0 hw1 hb hl hs hE hdn
  go_enter Tryz.func10, Tryz.ntmps10
  go_wp2_with (rw [← HW1.out, ← HB.out])
  refine (HACT.out _ (HL.out.ext HX0.out)).mono ?_
  rintro e w2 ⟨v, rfl, hown, hx⟩
  obtain ⟨B1, c1, rfl, hl1⟩ := HLst.of_own hown
  obtain ⟨e0, e1, e3⟩ := HCE.out w2 hx
  have hr1 := hl1.room
  have hm1 := hl1.max
  unfold maxLen at hm1
  have HL1 := Lib.hid hl1
  have HX2 := Lib.hid hx
  clear hown hl1 hx
  go_wp2_with fail
  refine (selected_any 19 #[.pointer (some ⟨b, 0, none⟩)] (notAt p) B1 m.length c1 m w2 HL1.out ⟨fun _ _ => by simp [callFunc, go_sem]; rfl, fun W h _ hxW => other_any p b h W (hxW.cell e1)⟩ hmr).mono ?_
  rintro e w3 ⟨v2, rfl, hown2, hx3⟩
  rw [← HR.out] at hown2
  have HX3 := Lib.hid (HX2.out.trans hx3)
  have HL3 := Lib.hid (HL1.out.ext hx3)
  obtain ⟨f0, f1, f3⟩ := HCE.out w3 HX3.out
  obtain ⟨B2, c2, rfl, hl2⟩ := HLst.of_own hown2
  have HO2 := Lib.hid hown2
  have HL2 := Lib.hid hl2
  have hr2 := hl2.room
  have hm2 := hl2.max
  unfold maxLen at hm2
  have hs2 := hx3.size
  clear e0 e1 e3 hown2 hx3 hl2
  go_wp2_with fail
  refine (HDA.out w3).mono ?_
  rintro e w4 ⟨rfl, hx4⟩
  have HX4 := Lib.hid (HX3.out.trans hx4)
  have HL4 := Lib.hid (HL3.out.ext hx4)
  obtain ⟨g0, g1, g3⟩ := HCE.out w4 HX4.out
  clear f0 f1 f3
  have HX34 := Lib.hid hx4
  clear hx4
  go_wp2_with fail
  go_loopw [10, 13, 35] (fun u _ i wr => ∃ k : Nat, k ≤ m.length ∧ i = .int .i64 k ∧ u = .int .i64 (untilA p (m.take k) dn) ∧ Ext w4 wr) (fun _ _ i _ => m.length - (intOf i).toNat)
  case atStart => exact ⟨0, Nat.zero_le _, rfl, rfl, Ext.refl _⟩
  case round =>
    obtain ⟨k, hk, rfl, rfl, hx⟩ := hrel
    obtain ⟨q0, q1, q3⟩ := HCE.out wr (HX4.out.trans hx)
    have hbl := cell_lt q1
    simp only at hbl
    by_cases hkm : k < m.length
    · obtain ⟨bb, off, hA, hc⟩ := HL4.out.at_ (by omega)
      subst hA
      have hc1 := hx.cell (hc k hkm).1
      have hc2 := hx.cell (hc k hkm).2
      have hun : Hid (untilA p (m.take (k + 1)) dn = if notAt p m[k] = true then untilA p (m.take k) dn else max (untilA p (m.take k) dn) m[k].2) := by
        show _ = _
        rw [List.take_succ_eq_append_getElem hkm, untilA_snoc]
      have hna : notAt p m[k] = !(m[k].1.toList == p.toList) := rfl
      generalize m[k] = h at hc1 hc2 hun hna
      generalize untilA p (m.take k) dn = U at *
      have HC := Lib.hid hc
      have HNA := Lib.hid hna
      clear hc hna
      cases hq : (h.1.toList == p.toList) with
      | true =>
        go_wp2_with fail
        go_roundw
        case rel => exact ⟨k + 1, by omega, by go_num, by rw [hun.out, HNA.out, hq]; rfl, (hx.alloc _)⟩
        case measure => simp [intOf]; omega
      | false =>
        go_wp2_with fail
        go_roundw
        case rel => exact ⟨k + 1, by omega, by go_num, by rw [hun.out, HNA.out, hq]; rfl, (hx.alloc _)⟩
        case measure => simp [intOf]; omega
    · obtain rfl : k = m.length := by omega
      rw [List.take_length]
      obtain ⟨U, hU⟩ : ∃ U, U = untilA p m dn := ⟨_, rfl⟩
      have HU := Lib.hid hU
      rw [← hU]
      clear hU
      have HX5 := Lib.hid (HX4.out.trans hx)
      have HLr := Lib.hid (HL2.out.ext (HX34.out.trans hx))
      have HOr := Lib.hid (own_ext HO2.out (HX34.out.trans hx))
      have hidx := indexW_any 22 #[.pointer (some ⟨b, 0, none⟩)] B2 R.length c2 R wr HLr.out (fun _ _ => by simp [callFunc, go_sem]; rfl) (fun W hW h hh => behind_any p b h W (HCE.out W (HX5.out.trans hW)).2.1 hp (by have := HSH.out h hh; omega) (HE.out.ext (HX0.out.trans (HX5.out.trans hW))))
      have HI := Lib.hid hidx
      have hbase : w2.heap.size ≤ wr.heap.size := Nat.le_trans hs2 (Nat.le_trans HX34.out.size hx.size)
      have hwb : w.heap.size ≤ w2.heap.size := (HX0.out.trans HX2.out).size
      have HX6 := Lib.hid (HX0.out.trans HX5.out)
      clear hidx hx q0 q3
      go_wp2_with fail
      refine HI.out.mono ?_
      rintro e w5 ⟨i, rfl, hi, hx5⟩
      obtain ⟨q0, q1', q3⟩ := HCE.out w5 (HX5.out.trans hx5)
      have hbl5 := cell_lt q1'
      simp only at hbl5
      obtain ⟨wC, hwC⟩ : ∃ W, W = w5.alloc (.cells #[.string p, .int .i64 U] 44) := ⟨_, rfl⟩
      have hxC : Ext w5 wC := by rw [hwC]; exact (Ext.refl w5).alloc _
      have hhC : wC.heap[w5.heap.size]? = some (.cells #[.string p, .int .i64 U] 44 (0, 0)) := by rw [hwC]; exact heap_alloc_new w5 _
      have hown5 := own_ext HOr.out hx5
      have hne : (Value.slice B2 R.length c2).ownBlock ≠ some w5.heap.size := fun e => by
        have := (hown5.lt _ e).2
        omega
      have HIN : Hid (∀ j : Nat, j ≤ R.length → Calls Tryz.prog 24 #[.slice B2 R.length c2, .int .i64 j, .slice (some ⟨w5.heap.size, 0, none⟩) 1 1] wC fun e w' =>
          ∃ A c, e = .returned (.slice A (R.length + 1) c) ∧ HLst w' A (R.length + 1) c (R.take j ++ [(p, U)] ++ R.drop j) ∧ Ext w w') := fun j hj =>
        insert_any w wC w2.heap.size R.length j w5.heap.size (.slice B2 R.length c2) R (p, U) (own_ext hown5 hxC) rfl (by omega) hj ((HX6.out.trans hx5).trans hxC) hwb (by have h1 := hx5.size; have h2 := hxC.size; omega) hhC hne
      have HWC := Lib.hid hwC
      clear hwC hxC hhC hown5 hne hx5 q0 q3
      rcases hi with rfl | ⟨h1, h2⟩
      · go_wp2_with (rw [← HWC.out])
        refine (HIN.out R.length (Nat.le_refl _)).mono ?_
        rintro e w6 ⟨A6, c6, rfl, hl6, hx6⟩
        go_wp2_with fail
        go_ret2
        exact ⟨A6, c6, R.length, Nat.le_refl _, rfl, by rw [← HU.out]; exact hl6, hx6⟩
      · obtain ⟨j, rfl⟩ : ∃ j : Nat, i = (j : Int) := ⟨i.toNat, by omega⟩
        have hd : decide ((j : Int) < 0) = false := decide_eq_false (by omega)
        have hjR : j ≤ R.length := by omega
        clear h1 h2
        go_wp2_with (rw [← HWC.out])
        refine (HIN.out j hjR).mono ?_
        rintro e w6 ⟨A6, c6, rfl, hl6, hx6⟩
        go_wp2_with fail
        go_ret2
        exact ⟨A6, c6, j, hjR, rfl, by rw [← HU.out]; exact hl6, hx6⟩
set_option maxHeartbeats 6400000 in
set_option maxRecDepth 100000 in
theorem applyRelease_any (p : ByteArray) (a2 a3 a4 a5 a6 : Value) (date : Int) (A : Option Addr) (n cap : Nat) (l : List Hold) (w : World) (hl : HLst w A n cap l) (hn : n ≤ 200) :
    Calls Tryz.prog 10 #[.slice A n cap, .agg #[.int .i64 6, .string p, a2, a3, a4, a5, a6], .int .i64 date] w fun e w' =>
      (if ((l.filter (inForce date)).filter (notAt p)).length = (l.filter (inForce date)).length then e = .returned (.tuple #[.slice none 0 0, .int .i64 9]) else
        ∃ (B : Option Addr) (c : Nat), e = .returned (.tuple #[.slice B ((l.filter (inForce date)).filter (notAt p)).length c, .int .i64 0]) ∧ HLst w' B ((l.filter (inForce date)).filter (notAt p)).length c ((l.filter (inForce date)).filter (notAt p))) ∧ Ext w w' := by
  have hact := fun W (hW : HLst W A n cap l) => active_any date A n cap l W hW (by omega)
  have hlen := hl.len
  have hfl := List.length_filter_le (inForce date) l
  generalize l.filter (inForce date) = m at *
  have hmr : m.length * 24 ≤ 140737488351232 := by omega
  obtain ⟨R, hR⟩ : ∃ R, R = m.filter (notAt p) := ⟨_, rfl⟩
  have hrl := List.length_filter_le (notAt p) m
  rw [← hR] at hrl ⊢
  have HR := Lib.hid hR
  have HACT := Lib.hid hact
  obtain ⟨w1, hw1⟩ : ∃ W, W = w.alloc (.cells #[.int .i64 6, .string p, a2, a3, a4, a5, a6] 32) := ⟨_, rfl⟩
  have hx0 : Ext w w1 := by rw [hw1]; exact (Ext.refl w).alloc _
  have hb0 : w1.heap[w.heap.size]? = some (.cells #[.int .i64 6, .string p, a2, a3, a4, a5, a6] 32 (0, 0)) := by rw [hw1]; exact heap_alloc_new w _
  obtain ⟨b, hb⟩ : ∃ b, b = w.heap.size := ⟨_, rfl⟩
  rw [← hb] at hb0
  have HW1 := Lib.hid hw1
  have HB := Lib.hid hb
  have HCE : Hid (∀ W, Ext w1 W → W.cell? ⟨b, 0, none⟩ = some (.int .i64 6) ∧ W.cell? ⟨b, 1, none⟩ = some (.string p)) := fun W hW => ⟨hW.cell (by simp [World.cell?, hb0]), hW.cell (by simp [World.cell?, hb0])⟩
  have HX0 := Lib.hid hx0
  have HL := Lib.hid hl
  have hmn : m.length ≤ 200 := by omega
  clear hact hR hfl hlen hx0 hb0 hw1 hb hl
  go_enter Tryz.func10, Tryz.ntmps10
  go_wp2_with (rw [← HW1.out, ← HB.out])
  refine (HACT.out _ (HL.out.ext HX0.out)).mono ?_
  rintro e w2 ⟨v, rfl, hown, hx⟩
  obtain ⟨B1, c1, rfl, hl1⟩ := HLst.of_own hown
  obtain ⟨e0, e1⟩ := HCE.out w2 hx
  have HL1 := Lib.hid hl1
  have HX2 := Lib.hid hx
  clear hown hl1 hx
  go_wp2_with fail
  refine (selected_any 19 #[.pointer (some ⟨b, 0, none⟩)] (notAt p) B1 m.length c1 m w2 HL1.out ⟨fun _ _ => by simp [callFunc, go_sem]; rfl, fun W h _ hxW => other_any p b h W (hxW.cell e1)⟩ hmr).mono ?_
  rintro e w3 ⟨v2, rfl, hown2, hx3⟩
  rw [← HR.out] at hown2
  have HX3 := Lib.hid (HX2.out.trans hx3)
  obtain ⟨f0, f1⟩ := HCE.out w3 HX3.out
  obtain ⟨B2, c2, rfl, hl2⟩ := HLst.of_own hown2
  have HL2 := Lib.hid hl2
  have HXX := Lib.hid (HX0.out.trans HX3.out)
  clear e0 e1 hown2 hx3 hl2
  by_cases hq : R.length = m.length
  · have hqb : ((R.length : Int) == (m.length : Int)) = true := by rw [hq]; simp
    have HQ := Lib.hid hq
    clear hq
    go_wp2_with fail
    go_ret2
    refine ⟨?_, HXX.out⟩
    first | rfl | rw [if_pos HQ.out]
  · have hqb : ((R.length : Int) == (m.length : Int)) = false := by simp; omega
    have HQ := Lib.hid hq
    clear hq
    go_wp2_with fail
    go_ret2
    refine ⟨?_, HXX.out⟩
    first | exact ⟨B2, c2, rfl, HL2.out⟩ | (rw [if_neg HQ.out]; exact ⟨B2, c2, rfl, HL2.out⟩)
end Go.Proofs.YtkbaappeakgnoaaGreatDoor
