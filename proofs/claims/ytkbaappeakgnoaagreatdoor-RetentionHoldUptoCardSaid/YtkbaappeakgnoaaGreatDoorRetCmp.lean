/- pathname.Compare answers; the index of a hold behind a path. -/
import Derived.Test.YtkbaappeakgnoaaGreatDoorRetWalk
namespace Go.Proofs.YtkbaappeakgnoaaGreatDoor
open Go.RowKit
open Go.Lib
set_option linter.unusedVariables false
set_option linter.unusedSimpArgs false

theorem isnan_any (s : ByteArray) (w : World) : Calls Tryz.prog 60 #[.string s] w fun e w' => e = .returned (.bool false) ∧ w = w' := by
  have h : (s.toList != s.toList) = false := by simp
  go_enter Tryz.func60, Tryz.ntmps60
  go_wp2_with fail
  go_ret
  exact ⟨by simp, rfl⟩
theorem cmps_any (s t : ByteArray) (w : World) : Calls Tryz.prog 39 #[.string s, .string t] w fun e w' => ∃ c : Int, e = .returned (.int .i64 c) ∧ w = w' := by
  go_enter Tryz.func39, Tryz.ntmps39
  go_wp2_with fail
  refine (isnan_any s w).mono ?_
  rintro e w1 ⟨rfl, rfl⟩
  go_wp2_with fail
  refine (isnan_any t w).mono ?_
  rintro e w1 ⟨rfl, rfl⟩
  go_wp2_with fail
  all_goals (
    go_ret
    exact ⟨_, rfl, rfl⟩)
set_option maxHeartbeats 1600000 in
set_option maxRecDepth 100000 in
theorem cmpf_any (A B : Option Addr) (n m c d : Nat) (xs ys : List ByteArray) (w : World) (hx : Lst w A n c (xs.map .string)) (hy : Lst w B m d (ys.map .string)) :
    Calls Tryz.prog 38 #[.slice A n c, .slice B m d, .func (.func 39) #[] #[]] w fun e w' => ∃ r : Int, e = .returned (.int .i64 r) ∧ w = w' := by
  have hl1 := hx.len
  have hl2 := hy.len
  have hr1 := hx.room
  have hr2 := hy.room
  have hm1 := hx.max
  have hm2 := hy.max
  unfold maxLen at hm1 hm2
  rw [List.length_map] at hl1 hl2
  have HX := Lib.hid hx.at_
  have HY := Lib.hid hy.at_
  have HL1 := Lib.hid hl1
  have HL2 := Lib.hid hl2
  have hef : ∀ args w, (callFunc 39 args).run Tryz.prog w = .ok (.enter 39 args) w := fun _ _ => by simp [callFunc, go_sem]; rfl
  clear hx hy hl1 hl2
  go_enter Tryz.func38, Tryz.ntmps38
  go_wp2_with fail
  go_loopw [7, 8, 9, 10, 13] (fun _ _ _ _ i wr => wr = w ∧ ∃ k : Nat, k ≤ n ∧ i = .int .i64 k) (fun _ _ _ _ i _ => n - (intOf i).toNat)
  case atStart => exact ⟨rfl, 0, Nat.zero_le _, rfl⟩
  case round =>
    obtain ⟨rfl, k, hk, rfl⟩ := hrel
    by_cases hkn : k < n
    · obtain ⟨b1, o1, rfl, hc1⟩ := HX.out (by omega)
      have c1 := hc1 k (by rw [List.length_map, ← HL1.out]; exact hkn)
      simp only [List.getElem_map] at c1
      generalize xs[k]'(by rw [← HL1.out]; exact hkn) = x at c1
      by_cases hkm : k < m
      · obtain ⟨b2, o2, rfl, hc2⟩ := HY.out (by omega)
        have c2 := hc2 k (by rw [List.length_map, ← HL2.out]; exact hkm)
        simp only [List.getElem_map] at c2
        generalize ys[k]'(by rw [← HL2.out]; exact hkm) = y at c2
        have hd : decide ((m : Int) ≤ (k : Int)) = false := decide_eq_false (by omega)
        have HH := Lib.hid hc1
        have HH2 := Lib.hid hc2
        clear hc1 hc2
        go_wp2_with fail
        refine (cmps_any x y _).mono ?_
        rintro e w1 ⟨r, rfl, rfl⟩
        by_cases hr : r = 0
        · have hz : (r != 0) = false := by rw [hr]; rfl
          clear hr
          go_wp2_with fail
          go_roundw
          case rel => exact ⟨trivial, k + 1, by omega, by go_num⟩
          case measure => (simp [intOf] <;> omega)
        · have hz : (r != 0) = true := by simpa using hr
          go_wp2_with fail
          go_ret
          exact ⟨_, rfl, rfl⟩
      · have hd : decide ((m : Int) ≤ (k : Int)) = true := decide_eq_true (by omega)
        clear hc1
        go_wp2_with fail
        go_ret
        exact ⟨_, rfl, rfl⟩
    · obtain rfl : k = n := by omega
      go_wp2_with fail
      all_goals (
        go_ret
        exact ⟨_, rfl, rfl⟩)
set_option maxHeartbeats 1600000 in
set_option maxRecDepth 100000 in
theorem compare_any (p q : ByteArray) (w : World) (hp : p.size < 4294967281) (hq : q.size < 4294967281) (hE : Env w) :
    Calls Tryz.prog 23 #[.string p, .string q] w fun e w' => ∃ r : Int, e = .returned (.int .i64 r) ∧ Ext w w' := by
  have H1 := Lib.hid (elements_any p w hp hE)
  have H2 := Lib.hid (fun W (h : Ext w W) => elements_any q W hq (hE.ext h))
  generalize els p = xs at *
  generalize els q = ys at *
  go_enter Tryz.func23, Tryz.ntmps23
  go_wp2_with fail
  refine H1.out.mono ?_
  rintro e w1 ⟨A, c, rfl, hl1, hx1⟩
  have L1 := Lib.hid hl1
  clear hl1
  go_wp2_with fail
  refine (H2.out _ hx1).mono ?_
  rintro e w2 ⟨B, d, rfl, hl2, hx2⟩
  have HC := Lib.hid (cmpf_any A B xs.length ys.length c d xs ys w2 (L1.out.ext hx2) hl2)
  have hx12 := hx1.trans hx2
  clear hl2 hx1 hx2
  go_wp2_with fail
  refine HC.out.mono ?_
  rintro e w3 ⟨r, rfl, rfl⟩
  go_wp2_with fail
  go_ret
  exact ⟨_, rfl, hx12⟩
set_option maxHeartbeats 800000 in
theorem behind_any (p : ByteArray) (b : Nat) (h : Hold) (w : World) (hd : w.cell? ⟨b, 1, none⟩ = some (.string p)) (hp : p.size < 4294967281) (hh : h.1.size < 4294967281) (hE : Env w) :
    Calls Tryz.prog 22 #[.agg #[.string h.1, .int .i64 h.2], .pointer (some ⟨b, 0, none⟩)] w fun e w' => ∃ r : Bool, e = .returned (.bool r) ∧ Ext w w' := by
  have hb := cell_lt hd
  simp only at hb
  have HC := Lib.hid (fun W (hx : Ext w W) => compare_any h.1 p W hh hp (hE.ext hx))
  have hx0 : Ext w (w.alloc (.cells #[.string h.1, .int .i64 h.2] 44)) := (Ext.refl _).alloc _
  go_enter Tryz.func22, Tryz.ntmps22
  go_wp2_with fail
  refine (HC.out _ hx0).mono ?_
  rintro e w1 ⟨r, rfl, hx1⟩
  have hx2 := hx0.trans hx1
  clear hx0 hx1
  go_wp2_with fail
  go_ret
  exact ⟨_, rfl, hx2⟩
/-- the index of an element, whatever the predicate says -/
theorem indexW_any (g : Nat) (lb : Array Value) (A : Option Addr) (n cap : Nat) (l : List Hold) (w : World) (hl : HLst w A n cap l) (eg : ∀ args w, (callFunc g args).run Tryz.prog w = .ok (.enter g args) w)
    (hp : ∀ W, Ext w W → ∀ h ∈ l, Calls Tryz.prog g (#[Value.agg #[.string h.1, .int .i64 h.2]] ++ lb) W fun e w' => ∃ r : Bool, e = .returned (.bool r) ∧ Ext W w') :
    Calls Tryz.prog 21 #[.slice A n cap, .func (.func g) #[] lb] w fun e w' => ∃ i : Int, e = .returned (.int .i64 i) ∧ (i = -1 ∨ (0 ≤ i ∧ i < n)) ∧ Ext w w' := by
  have hlen := hl.len
  have hroom := hl.room
  have hmax := hl.max
  unfold maxLen at hmax
  have HL := Lib.hid hlen
  have HP := Lib.hid hp
  clear hlen hp
  go_enter Tryz.func21, Tryz.ntmps21
  go_wp2_with fail
  go_loopw [8] (fun i wr => ∃ k : Nat, k ≤ n ∧ i = .int .i64 k ∧ Ext w wr) (fun i _ => n - (intOf i).toNat)
  case atStart => exact ⟨0, Nat.zero_le _, rfl, Ext.refl _⟩
  case round =>
    obtain ⟨k, hk, rfl, hx⟩ := hrel
    by_cases hlt : k < n
    · obtain ⟨b, off, rfl, hc⟩ := hl.at_ (by omega)
      have hkl : k < l.length := by have := HL.out; omega
      have hc1 := hx.cell (hc k hkl).1
      have hc2 := hx.cell (hc k hkl).2
      have HM : l[k] ∈ l := List.getElem_mem hkl
      generalize l[k] = h at hc1 hc2 HM
      have HC := Lib.hid hc
      clear hc
      go_wp2_with fail
      refine (HP.out _ hx h HM).mono ?_
      rintro e w1 ⟨r, rfl, hx1⟩
      have hx2 := hx.trans hx1
      cases r
      · go_wp2_with fail
        go_roundw
        case rel => exact ⟨k + 1, by omega, by go_num, hx2⟩
        case measure => simp [intOf]; omega
      · clear hx1
        go_wp2_with fail
        go_ret
        exact ⟨_, rfl, .inr ⟨by omega, by omega⟩, hx2⟩
    · obtain rfl : k = n := by omega
      go_wp2_with fail
      go_ret
      exact ⟨_, rfl, .inl rfl, hx⟩
end Go.Proofs.YtkbaappeakgnoaaGreatDoor
