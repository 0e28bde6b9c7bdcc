/- The contract of the reference's Compare: element by element. -/
import Derived.Test.YtkbaappeakgnoaaGreatDoorRef31
import Derived.Laws.Cover1
namespace Go.Proofs.YtkbaappeakgnoaaGreatDoor
open Go.RowKit Go.Lib
set_option linter.unusedVariables false

def lessS (x y : ByteArray) : Bool := Op.bytesLess x.toList y.toList
/-- comparing two lists of strings -/
def cmpE : List ByteArray → List ByteArray → Int
  | [], [] => 0
  | [], _ :: _ => -1
  | _ :: _, [] => 1
  | x :: xs, y :: ys => if lessS x y then -1 else if !(lessS x y || x.toList == y.toList) then 1 else cmpE xs ys
def cmpP (a b : ByteArray) : Int := cmpE (els a) (els b)

theorem cmpE_drop (xs ys : List ByteArray) (k : Nat) (h1 : k < xs.length) (h2 : k < ys.length) :
    cmpE (xs.drop k) (ys.drop k) = if lessS xs[k] ys[k] then -1 else if !(lessS xs[k] ys[k] || xs[k].toList == ys[k].toList) then 1 else cmpE (xs.drop (k + 1)) (ys.drop (k + 1)) := by
  rw [List.drop_eq_getElem_cons h1, List.drop_eq_getElem_cons h2]
  rfl

theorem cmpE_end (xs ys : List ByteArray) (k : Nat) (h : ¬ (k < xs.length ∧ k < ys.length)) (hk : k ≤ xs.length ∧ k ≤ ys.length) :
    cmpE (xs.drop k) (ys.drop k) = if xs.length < ys.length then -1 else if ys.length < xs.length then 1 else 0 := by
  by_cases h1 : k < xs.length
  · have : k = ys.length := by omega
    rw [List.drop_eq_getElem_cons h1, List.drop_of_length_le (by omega : ys.length ≤ k), if_neg (by omega), if_pos (by omega)]
    rfl
  · by_cases h2 : k < ys.length
    · rw [List.drop_eq_getElem_cons h2, List.drop_of_length_le (by omega : xs.length ≤ k), if_pos (by omega)]
      rfl
    · rw [List.drop_of_length_le (by omega : xs.length ≤ k), List.drop_of_length_le (by omega : ys.length ≤ k), if_neg (by omega), if_neg (by omega)]
      rfl

set_option maxHeartbeats 1000000 in
theorem rcompare_any (p d : ByteArray) (w : World) (hp : p.size ≤ 4294967280) (hd : d.size ≤ 4294967280) :
    Calls Tryz.prog 31 #[.string p, .string d] w fun e w' => e = .returned (.int .i64 (cmpP p d)) ∧ Ext w w' := by
  have hep := fun W => relements_any p W hp
  have hed := fun W => relements_any d W hd
  have hlp := els_length p
  have hld := els_length d
  unfold cmpP
  generalize els p = xs at *
  generalize els d = ys at *
  have HEP := Lib.hid hep
  have HED := Lib.hid hed
  clear hep hed
  obtain ⟨res, hres⟩ : ∃ z, z = cmpE xs ys := ⟨_, rfl⟩
  rw [← hres]
  have HR := Lib.hid hres
  clear hres
  go_enter Tryz.func31, Tryz.ntmps31
  go_wp2_with fail
  refine (HEP.out _).mono ?_
  rintro e w3 ⟨v, rfl, hown, hx3⟩
  obtain ⟨A, c1, rfl, hl1⟩ := Lst.of_strs hown
  clear hown
  go_wp2_with fail
  refine (HED.out _).mono ?_
  rintro e w4 ⟨v, rfl, hown, hx4⟩
  obtain ⟨B, c2, rfl, hl2⟩ := Lst.of_strs hown
  clear hown
  have hl1' := hl1.ext hx4
  have hr1 := hl1.room
  have hm1 := hl1.max
  have hr2 := hl2.room
  have hm2 := hl2.max
  unfold maxLen at hm1 hm2
  have hx := hx3.trans hx4
  clear hx3 hx4 hl1
  go_wp2_with fail
  go_loopw [7] (fun i wr => ∃ k : Nat, k ≤ xs.length ∧ k ≤ ys.length ∧ i = .int .i64 k ∧ cmpE (xs.drop k) (ys.drop k) = cmpE xs ys ∧ Ext w4 wr) (fun i _ => ys.length - (intOf i).toNat)
  case atStart => exact ⟨0, Nat.zero_le _, Nat.zero_le _, rfl, rfl, Ext.refl _⟩
  case round =>
    obtain ⟨k, hk1, hk2, rfl, hcmp, hxr⟩ := hrel
    have HT := Lib.hid hcmp
    clear hcmp
    by_cases hkx : k < xs.length
    · by_cases hlt : k < ys.length
      · obtain ⟨b1, o1, rfl, hc1⟩ := hl1'.at_ (by omega)
        obtain ⟨b2, o2, rfl, hc2⟩ := hl2.at_ (by omega)
        have hd1 := hxr.cell (hc1 k (by simpa using hkx))
        have hd2 := hxr.cell (hc2 k (by simpa using hlt))
        simp only [List.getElem_map] at hd1 hd2
        have HC1 := Lib.hid hc1
        have HC2 := Lib.hid hc2
        clear hc1 hc2
        have hst := Lib.hid (cmpE_drop xs ys k hkx hlt)
        generalize xs[k] = x at hd1 hst
        generalize ys[k] = y at hd2 hst
        unfold lessS at hst
        cases hb1 : Op.bytesLess x.toList y.toList
        · cases hb2 : (x.toList == y.toList)
          · have HV : Hid (cmpE xs ys = 1) := by
              show _ = _
              rw [← HT.out, hst.out, hb1, hb2]; rfl
            go_wp2_with fail
            go_quiet (fail)
            go_wp2_with fail
            go_quiet (fail)
            go_wp2_with fail
            go_ret
            exact ⟨ret_int (by rw [HR.out, HV.out]), hx.trans ((hxr.drewN _).drewN _)⟩
          · have HV : Hid (cmpE (xs.drop (k + 1)) (ys.drop (k + 1)) = cmpE xs ys) := by
              show _ = _
              rw [← HT.out, hst.out, hb1, hb2]; rfl
            go_wp2_with fail
            go_quiet (fail)
            go_wp2_with fail
            go_quiet (fail)
            go_wp2_with fail
            go_roundw
            case rel => exact ⟨k + 1, by omega, by omega, by go_num, HV.out, hxr.drewN _⟩
            case measure => simp [intOf]; omega
        · have HV : Hid (cmpE xs ys = -1) := by
            show _ = _
            rw [← HT.out, hst.out, hb1]; rfl
          go_wp2_with fail
          go_quiet (fail)
          go_wp2_with fail
          go_ret
          exact ⟨ret_int (by rw [HR.out, HV.out]), hx.trans (hxr.drewN _)⟩
      · have HV := Lib.hid (cmpE_end xs ys k (by omega) ⟨hk1, hk2⟩)
        go_wp2_with fail
        go_ret
        exact ⟨ret_int (by rw [HR.out, ← HT.out, HV.out, if_neg (by omega), if_pos (by omega)]), hx.trans hxr⟩
    · have HV := Lib.hid (cmpE_end xs ys k (by omega) ⟨hk1, hk2⟩)
      by_cases hc : xs.length < ys.length
      · go_wp2_with fail
        go_ret
        exact ⟨ret_int (by rw [HR.out, ← HT.out, HV.out, if_pos hc]), hx.trans hxr⟩
      · go_wp2_with fail
        go_ret
        exact ⟨ret_int (by rw [HR.out, ← HT.out, HV.out, if_neg hc, if_neg (by omega)]), hx.trans hxr⟩
end Go.Proofs.YtkbaappeakgnoaaGreatDoor
