/- The law RetentionHold. -/
import Derived.Test.YtkbaappeakgnoaaGreatDoorRetHoldP
import Derived.Deep.QuietTactic
import Derived.BigQuiet
namespace Go.Proofs.YtkbaappeakgnoaaGreatDoor
open Go.RowKit
open Go.Lib hiding intOf
open Dec
set_option linter.unusedVariables false
set_option linter.unusedSimpArgs false

set_option maxHeartbeats 6400000 in
set_option maxRecDepth 100000 in
theorem hold_any (p q : ByteArray) (now till sec : Nat) (A : Option Addr) (n cap : Nat) (l : List Hold) (w : World) (hl : HLst w A n cap l) (hz : ∀ h ∈ l, h.1.size ≤ maxLen) (hp : p.size < 4294967281) (hq : q.size < 4294967281) (h1 : now ≤ 65535) (h2 : till ≤ 65535) (h3 : sec ≤ 65535) (hE : Env w) :
    Calls Tryz.prog 3 #[.agg #[.slice A n cap, .string p, .string q, .int .u16 now, .int .u16 till, .int .u16 sec]] w fun e w' => e = .returned (.bool true) ∧ Ext w w' := by
  have hrm := hl.room
  have hmx := hl.max
  unfold maxLen at hmx
  have hlen := hl.len
  have HAW := Lib.hid (fun W (hW : Ext w W) => awake_any W (hE.ext hW))
  have HF := Lib.hid (fun B W (hW : Ext w W) (hps : Lst W B 2 2 ([p, q].map .string)) => fine_any A B n cap 2 2 l [p, q] W (hl.ext hW) hz hps (by intro x hx; simp at hx; rcases hx with rfl | rfl; exact hp; exact hq) (hE.ext hW))
  obtain ⟨w1, hw1⟩ : ∃ W, W = w.alloc (.cells #[.slice A n cap, .string p, .string q, .int .u16 now, .int .u16 till, .int .u16 sec] 26) := ⟨_, rfl⟩
  have hx1 : Ext w w1 := by rw [hw1]; exact (Ext.refl w).alloc _
  have hb1 : w1.heap[w.heap.size]? = some (.cells #[.slice A n cap, .string p, .string q, .int .u16 now, .int .u16 till, .int .u16 sec] 26 (0, 0)) := by rw [hw1]; exact heap_alloc_new w _
  have hlt : w.heap.size < w1.heap.size := by rw [hw1]; simp
  have c0 : w1.cell? ⟨w.heap.size, 0, none⟩ = some (.slice A n cap) := by simp [World.cell?, hb1]
  have c1 : w1.cell? ⟨w.heap.size, 1, none⟩ = some (.string p) := by simp [World.cell?, hb1]
  have c2 : w1.cell? ⟨w.heap.size, 2, none⟩ = some (.string q) := by simp [World.cell?, hb1]
  have c3 : w1.cell? ⟨w.heap.size, 3, none⟩ = some (.int .u16 now) := by simp [World.cell?, hb1]
  have c4 : w1.cell? ⟨w.heap.size, 4, none⟩ = some (.int .u16 till) := by simp [World.cell?, hb1]
  have c5 : w1.cell? ⟨w.heap.size, 5, none⟩ = some (.int .u16 sec) := by simp [World.cell?, hb1]
  obtain ⟨w2, hw2⟩ : ∃ W, W = (w1.alloc (.cells #[.string p] 9)).drew := ⟨_, rfl⟩
  have hx2 : Ext w1 w2 := by rw [hw2]; exact ((Ext.refl w1).alloc _).drew
  obtain ⟨bp, hbp⟩ : ∃ b, b = w1.heap.size := ⟨_, rfl⟩
  have e0 : w2.cell? ⟨bp, 0, none⟩ = some (.string p) := by
    rw [hw2, hbp]
    exact World.cell?_alloc_at (w := w1) #[.string p] 9 w1.heap.size 0 rfl
  have HE0 := Lib.hid e0
  have HWW := Lib.hid hw2
  have HBP := Lib.hid hbp
  have HX2 := Lib.hid (hx1.trans hx2)
  have d3 := hx2.cell c3
  have d4 := hx2.cell c4
  have d5 := hx2.cell c5
  have HW1 := Lib.hid hw1
  have HX1 := Lib.hid hx1
  have HL := Lib.hid hl
  have HEE := Lib.hid hE
  have HLEN := Lib.hid hlen
  have hef : ∀ args w, (callFunc 8 args).run Tryz.prog w = .ok (.enter 8 args) w := fun _ _ => by simp [callFunc, go_sem]; rfl
  clear hb1 hw1 hx1 hl hE hz hlen hw2 hx2 hbp
  by_cases h11 : 11 < n
  · have hd : decide ((11 : Int) < (n : Int)) = true := decide_eq_true (by omega)
    clear h11
    go_enter Tryz.func3, Tryz.ntmps3
    go_wp2_with (rw [← HW1.out])
    go_region
    rw [← HWW.out, ← HBP.out]
    go_wp2_with fail
    go_quiet (fail)
    go_wp2_with fail
    refine (HAW.out _ (HX2.out.drewN _)).mono ?_
    rintro e w9 ⟨rfl, hx9⟩
    go_wp2_with fail
    go_ret
    exact ⟨rfl, (HX2.out.drewN _).trans hx9⟩
  have hd : decide ((11 : Int) < (n : Int)) = false := decide_eq_false (by omega)
  have hn11 : n ≤ 11 := by omega
  clear h11
  go_enter Tryz.func3, Tryz.ntmps3
  go_wp2_with (rw [← HW1.out])
  go_region
  rw [← HWW.out, ← HBP.out]
  go_wp2_with fail
  go_quiet (fail)
  generalize hw3 : w2.drewN _ = w3
  have hx3 : Ext w2 w3 := by rw [← hw3]; exact (Ext.refl w2).drewN _
  have HX3 := Lib.hid (HX2.out.trans hx3)
  have g0 := hx3.cell e0
  have HX23 := Lib.hid hx3
  clear hw3 hx3 c0 c1 c2 c3 c4 c5 d3 d4 d5 e0 hlt
  have hbl := cell_lt g0
  simp only at hbl
  go_wp2_with fail
  refine (HF.out _ _ (HX3.out.alloc _) ⟨rfl, Nat.le_refl _, by decide, fun _ => ⟨_, _, rfl, fun i hi => ?_⟩⟩).mono ?_
  · have hi2 : i = 0 ∨ i = 1 := by simp at hi; omega
    rcases hi2 with rfl | rfl
    · exact World.cell?_alloc_at (w := w3) #[.string p, .string q] 9 w3.heap.size 0 rfl
    · exact World.cell?_alloc_at (w := w3) #[.string p, .string q] 9 w3.heap.size 1 rfl
  rintro e w4 ⟨r, rfl, hr, hx4⟩
  have hx34 : Ext w3 w4 := ((Ext.refl w3).alloc _).trans hx4
  have HXK := Lib.hid (HX3.out.trans hx34)
  have HX24 := Lib.hid (HX23.out.trans hx34)
  have k0 := hx34.cell g0
  clear hx4 hx34 g0 hbl
  cases r
  · clear hr
    go_wp2_with fail
    refine (HAW.out _ HXK.out).mono ?_
    rintro e w9 ⟨rfl, hx9⟩
    go_wp2_with fail
    go_ret
    exact ⟨rfl, HXK.out.trans hx9⟩
  obtain ⟨h12, hgd, hchk⟩ := hr rfl
  have hsh := short_of_good hgd
  have hc : chk p = 0 := hchk p (by simp)
  have HSH := Lib.hid hsh
  have HC := Lib.hid hc
  clear hr hgd hsh hchk hc
  by_cases t1 : till < now
  · have hd1 : decide ((till : Int) < (now : Int)) = true := decide_eq_true (by omega)
    go_wp2_with fail
    refine (HAW.out _ HXK.out).mono ?_
    rintro e w9 ⟨rfl, hx9⟩
    go_wp2_with fail
    go_ret
    exact ⟨rfl, HXK.out.trans hx9⟩
  have hd1 : decide ((till : Int) < (now : Int)) = false := decide_eq_false (by omega)
  have hnt : now ≤ till := by omega
  clear t1
  have HEN1 := Lib.hid (fun W (hW : Ext w2 W) => entryH_any p bp till W (hW.cell HE0.out) (by omega))
  have HEN2 := Lib.hid (fun W (hW : Ext w2 W) => entryH_any p bp sec W (hW.cell HE0.out) (by omega))
  have HAP1 := Lib.hid (fun W (hW : Ext w W) => applyHold_any p till (.slice none 0 0) (.int .i64 0) (.string ⟨#[]⟩) (.slice none 0 0) now A n cap l W (HL.out.ext hW) (by omega) (by omega) hp HSH.out (HEE.out.ext hW))
  have HAP2 := Lib.hid (fun B c k (S : List Hold) W (hW : Ext w W) (hS : HLst W B k c S) (hk : k ≤ 100) (hs : Short S) => applyHold_any p sec (.slice none 0 0) (.int .i64 0) (.string ⟨#[]⟩) (.slice none 0 0) now B k c S W hS hk (by omega) hp hs (HEE.out.ext hW))
  have HPL := Lib.hid (fun j j2 hj => hold_plain p q now till sec l j j2 hnt HC.out ((l.filter (inForce now)).filter (notAt p)) _ _ (untilA p (l.filter (inForce now)) till) _ rfl rfl rfl hj rfl rfl)
  have HSS := Lib.hid (fun j => short_set (p := p) (U := untilA p (l.filter (inForce now)) till) (now := now) HSH.out rfl HC.out j)
  have hrl : ((l.filter (inForce now)).filter (notAt p)).length ≤ 11 := by
    have h1 := List.length_filter_le (inForce now) l
    have h2 := List.length_filter_le (notAt p) (l.filter (inForce now))
    have h3 := HLEN.out
    omega
  obtain ⟨D1, hD1⟩ : ∃ D, D = BY (decDigits till) := ⟨_, rfl⟩
  obtain ⟨D2, hD2⟩ : ∃ D, D = BY (decDigits sec) := ⟨_, rfl⟩
  rw [← hD1] at HEN1 HAP1
  rw [← hD2] at HEN2 HAP2
  clear hD1 hD2
  generalize untilA p (l.filter (inForce now)) till = U at *
  generalize (l.filter (inForce now)).filter (notAt p) = R at *
  go_wp2_with fail
  refine (HEN1.out _ HX24.out).mono ?_
  rintro e w5 ⟨rfl, hx5⟩
  have HX5 := Lib.hid (HXK.out.trans hx5)
  have HX25 := Lib.hid (HX24.out.trans hx5)
  clear hx5 k0
  go_wp2_with fail
  refine (HAP1.out _ HX5.out).mono ?_
  rintro e w6 ⟨B1, cc1, j, hj, rfl, hl6, hx6⟩
  have HX6 := Lib.hid (HX5.out.trans hx6)
  have HX26 := Lib.hid (HX25.out.trans hx6)
  have HL6 := Lib.hid hl6
  have hr6 := hl6.room
  have hm6 := hl6.max
  unfold maxLen at hm6
  have hss := HSS.out j
  have hpl := fun j2 => HPL.out j j2 hj
  generalize R.take j ++ [(p, U)] ++ R.drop j = S at *
  have HPL2 := Lib.hid hpl
  have HS2 := Lib.hid hss
  clear hx6 hl6 hss hpl HPL HSS
  go_wp2_with fail
  refine (HEN2.out _ HX26.out).mono ?_
  rintro e w7 ⟨rfl, hx7⟩
  have HX7 := Lib.hid (HX6.out.trans hx7)
  have HX27 := Lib.hid (HX26.out.trans hx7)
  have HL7 := Lib.hid (HL6.out.ext hx7)
  have hap := HAP2.out B1 cc1 (R.length + 1) S w7 HX7.out HL7.out (by omega) HS2.out
  rw [(HPL2.out 0).1, (HPL2.out 0).2.1] at hap
  have HAP3 := Lib.hid hap
  clear hx7 hap
  go_wp2_with fail
  refine HAP3.out.mono ?_
  rintro e w8 ⟨B2, cc2, j2, hj2, rfl, hl8, hx8⟩
  have HX8 := Lib.hid (HX7.out.trans hx8)
  have HX28 := Lib.hid (HX27.out.trans hx8)
  have HL8 := Lib.hid hl8
  have HL78 := Lib.hid (HL7.out.ext hx8)
  have hr8 := hl8.room
  have hm8 := hl8.max
  unfold maxLen at hm8
  obtain ⟨f1, f2, fkeep, fown, fmax⟩ := HPL2.out j2
  have hs2 : Short (R.take j2 ++ [(p, untilA p S sec)] ++ R.drop j2) := short_set (l := S) (now := now) HS2.out (by rw [f1, f2]) HC.out j2
  generalize R.take j2 ++ [(p, untilA p S sec)] ++ R.drop j2 = S2 at *
  have HH0 := Lib.hid (fun W (hW : Ext w W) => held_any q now A n cap l W (HL.out.ext hW) (by omega) hq HSH.out (HEE.out.ext hW))
  have HH1 := Lib.hid (fun W (hW : Ext w8 W) => held_any q now B1 (R.length + 1) cc1 S W (HL78.out.ext hW) (by omega) hq HS2.out (HEE.out.ext (HX8.out.trans hW)))
  have HH2 := Lib.hid (fun W (hW : Ext w8 W) => held_any q now B2 (R.length + 1) cc2 S2 W (HL8.out.ext hW) (by omega) hq hs2 (HEE.out.ext (HX8.out.trans hW)))
  have HP1 := Lib.hid (fun W (hW : Ext w8 W) => held_any p till B1 (R.length + 1) cc1 S W (HL78.out.ext hW) (by omega) hp HS2.out (HEE.out.ext (HX8.out.trans hW)))
  have HP2 := Lib.hid (fun W (hW : Ext w8 W) => held_any p (max (till : Int) sec) B2 (R.length + 1) cc2 S2 W (HL8.out.ext hW) (by omega) hp hs2 (HEE.out.ext (HX8.out.trans hW)))
  rw [fown] at HP1
  rw [fmax] at HP2
  generalize heldB S q now = b1 at *
  generalize heldB S2 q now = b2 at *
  cases hb : heldB l q now with
  | false =>
    rw [hb] at HH0
    clear f1 f2 fkeep fown fmax hs2 hb hx8 hl8
    go_wp2_with fail
    refine (HH0.out _ HX8.out).mono ?_
    rintro e w9 ⟨rfl, hx9⟩
    have HX9 := Lib.hid hx9
    clear hx9
    have hk1 := (HX28.out.trans HX9.out).cell HE0.out
    go_wp2_with fail
    refine (HP1.out _ HX9.out).mono ?_
    rintro e v1 ⟨rfl, hy1⟩
    have hk2 := hy1.cell hk1
    have HY1 := Lib.hid (HX9.out.trans hy1)
    clear hy1 hk1
    go_wp2_with fail
    refine (HP2.out _ HY1.out).mono ?_
    rintro e v2 ⟨rfl, hy2⟩
    have HY2 := Lib.hid (HY1.out.trans hy2)
    clear hy2 hk2
    go_wp2_with fail
    refine (HAW.out _ (HX8.out.trans HY2.out)).mono ?_
    rintro e v3 ⟨rfl, hy3⟩
    go_wp2_with fail
    go_ret
    exact ⟨rfl, (HX8.out.trans HY2.out).trans hy3⟩
  | true =>
    obtain ⟨rfl, rfl⟩ := fkeep hb
    rw [hb] at HH0
    clear f1 f2 fkeep fown fmax hs2 hb hx8 hl8
    go_wp2_with fail
    refine (HH0.out _ HX8.out).mono ?_
    rintro e w9 ⟨rfl, hx9⟩
    have HX9 := Lib.hid hx9
    clear hx9
    go_wp2_with fail
    refine (HH1.out _ HX9.out).mono ?_
    rintro e w10 ⟨rfl, hx10⟩
    have HX10 := Lib.hid (HX9.out.trans hx10)
    clear hx10
    go_wp2_with fail
    refine (HH2.out _ HX10.out).mono ?_
    rintro e w11 ⟨rfl, hx11⟩
    have HX11 := Lib.hid (HX10.out.trans hx11)
    clear hx11
    have hk1 := (HX28.out.trans HX11.out).cell HE0.out
    go_wp2_with fail
    refine (HP1.out _ HX11.out).mono ?_
    rintro e v1 ⟨rfl, hy1⟩
    have hk2 := hy1.cell hk1
    have HY1 := Lib.hid (HX11.out.trans hy1)
    clear hy1 hk1
    go_wp2_with fail
    refine (HP2.out _ HY1.out).mono ?_
    rintro e v2 ⟨rfl, hy2⟩
    have HY2 := Lib.hid (HY1.out.trans hy2)
    clear hy2 hk2
    go_wp2_with fail
    refine (HAW.out _ (HX8.out.trans HY2.out)).mono ?_
    rintro e v3 ⟨rfl, hy3⟩
    go_wp2_with fail
    go_ret
    exact ⟨rfl, (HX8.out.trans HY2.out).trans hy3⟩
end Go.Proofs.YtkbaappeakgnoaaGreatDoor
