/- The contracts of the assembler's tokens. -/
import Derived.Test.YtimegcnpembhkaaDoorAsmLib
import Derived.Test.YtimegcnpembhkaaDoorAsmDef
namespace Go.Proofs.YtimegcnpembhkaaDoor
open Go.RowKit
open Go.Lib hiding intOf
set_option linter.unusedVariables false

theorem empty_of_size {s : ByteArray} (h : s.size = 0) : s.toList = [] := by
  rw [ByteArray.toList_eq]; exact List.eq_nil_of_length_eq_zero h
theorem ne_of_size {s : ByteArray} (h : ¬ s.size = 0) : ¬ s.toList = [] := by
  rw [ByteArray.toList_eq]; intro e
  exact h (by have : s.size = s.data.toList.length := rfl; rw [this, e]; rfl)
theorem data_cons {s : ByteArray} (h : 0 < s.size) : s.data.toList = s[0] :: s.data.toList.drop 1 := by
  have hl : 0 < s.data.toList.length := h
  have := List.drop_eq_getElem_cons (i := 0) hl
  rw [List.drop_zero] at this
  exact this

theorem isName_any (s : ByteArray) (w : World) (hs : s.size ≤ maxLen) :
    Calls Tryd.prog 87 #[.string s] w fun e w' => e = .returned (.bool (nameB s.data.toList)) ∧ Ext w w' := by
  unfold maxLen at hs
  by_cases h0 : s.size = 0
  · have h1 := empty_of_size h0
    have hn : nameB s.data.toList = false := by
      rw [List.eq_nil_of_length_eq_zero (show s.data.toList.length = 0 from h0)]; rfl
    rw [hn]
    clear hn h0
    go_enter Tryd.func87, Tryd.ntmps87
    go_wp2_with fail
    go_ret
    exact ⟨rfl, Ext.refl _⟩
  · have h1 : (s.toList == []) = false := by simpa using ne_of_size h0
    have h1' := ne_of_size h0
    have hpos : 0 < s.size := by omega
    have hdc := data_cons hpos
    have htr := fun W => trim_any nmCs (by decide) (by decide) s W hs
    have hall : nameB s.data.toList = (decide (s.size ≤ 40) && isLow s[0] && s.data.toList.all (nmCs.contains ·)) := by
      have : (nmCs.contains ·) = isNm := funext nm_eq
      rw [this]
      conv => lhs; rw [hdc]
      show (decide ((s[0] :: s.data.toList.drop 1).length ≤ 40) && _ && _) = _
      rw [← hdc]; rfl
    rw [hall]
    unfold isLow
    generalize (s.data.toList.all (nmCs.contains ·)) = good at *
    unfold nmCs at htr
    have HT := Lib.hid htr
    clear htr hall h0 hdc
    by_cases h40 : (40 : Int) < (s.size : Int)
    · rw [decide_eq_false (by omega : ¬ s.size ≤ 40)]
      go_enter Tryd.func87, Tryd.ntmps87
      go_wp2_with fail
      go_ret
      exact ⟨rfl, Ext.refl _⟩
    · rw [decide_eq_true (by omega : s.size ≤ 40)]
      by_cases h97 : ((s[0].toNat : Nat) : Int) < 97
      · rw [decide_eq_false (by omega : ¬ 97 ≤ s[0].toNat)]
        go_enter Tryd.func87, Tryd.ntmps87
        go_wp2_with fail
        go_ret
        exact ⟨rfl, Ext.refl _⟩
      · rw [decide_eq_true (by omega : 97 ≤ s[0].toNat)]
        by_cases h122 : (122 : Int) < ((s[0].toNat : Nat) : Int)
        · rw [decide_eq_false (by omega : ¬ s[0].toNat ≤ 122)]
          go_enter Tryd.func87, Tryd.ntmps87
          go_wp2_with fail
          go_ret
          exact ⟨rfl, Ext.refl _⟩
        · rw [decide_eq_true (by omega : s[0].toNat ≤ 122)]
          go_enter Tryd.func87, Tryd.ntmps87
          go_wp2_with fail
          refine (HT.out _).mono ?_
          rintro e w1 ⟨r, rfl, hr, hx⟩
          have HR := Lib.hid hr
          clear hr
          go_wp2_with fail
          go_ret
          exact ⟨ret_bool (by simpa using HR.out), hx⟩

theorem suffix_last (s : Bytes) (c : UInt8) : hasSuffix s [c] = decide (s.getLast? = some c) := by
  rw [Bool.eq_iff_iff, decide_eq_true_iff]
  unfold hasSuffix
  rw [List.isSuffixOf_iff_suffix, List.getLast?_eq_some_iff]
  constructor
  · rintro ⟨t, rfl⟩; exact ⟨t, rfl⟩
  · rintro ⟨t, rfl⟩; exact ⟨t, rfl⟩
theorem trimSuffix_last (s : Bytes) (c : UInt8) (h : s.getLast? = some c) : trimSuffix s [c] = s.dropLast := by
  unfold trimSuffix
  rw [suffix_last, h, decide_eq_true rfl, if_pos rfl, List.dropLast_eq_take]
  rfl
theorem trimSuffix_size (s : Bytes) (c : UInt8) : (trimSuffix s [c]).length ≤ s.length := by
  unfold trimSuffix
  split
  · exact List.length_take_le' _ _
  · exact Nat.le_refl _

theorem def_some (s : ByteArray) (n : Bytes) (line : Value) (w : World) (hs : s.size ≤ maxLen) (h : defN s.data.toList = some n) :
    Calls Tryd.prog 54 #[.agg #[.string s, line]] w fun e w' => e = .returned (.tuple #[.string (BA n), .bool true]) ∧ Ext w w' := by
  unfold defN at h
  by_cases hc : s.data.toList.getLast? = some 58 ∧ nameB s.data.toList.dropLast = true
  · rw [if_pos hc] at h
    have hn : s.data.toList.dropLast = n := by simpa using h
    have hcs := fun W => cutSuffix_any 58 s W hs
    rw [trimSuffix_last _ _ hc.1, suffix_last, hc.1, decide_eq_true rfl, hn] at hcs
    have hnm := fun W => isName_any (BA n) W (by rw [BA_size, ← hn, List.length_dropLast]; have : s.data.toList.length = s.size := rfl; omega)
    rw [BA_data, ← hn, hc.2, hn] at hnm
    have H1 := Lib.hid hcs
    have H2 := Lib.hid hnm
    clear hcs hnm hc h hn
    go_enter Tryd.func54, Tryd.ntmps54
    go_wp2_with fail
    refine (H1.out _).mono ?_
    rintro e w' ⟨rfl, rfl⟩
    go_wp2_with fail
    refine (H2.out _).mono ?_
    rintro e w' ⟨rfl, hx⟩
    go_wp2_with fail
    go_ret2
    exact ⟨rfl, ((Ext.refl w).alloc _).trans hx⟩
  · rw [if_neg hc] at h
    cases h
theorem def_none (s : ByteArray) (line : Value) (w : World) (hs : s.size ≤ maxLen) (h : defN s.data.toList = none) :
    Calls Tryd.prog 54 #[.agg #[.string s, line]] w fun e w' => ∃ x, e = .returned (.tuple #[.string x, .bool false]) ∧ Ext w w' := by
  unfold defN at h
  have hcs := fun W => cutSuffix_any 58 s W hs
  have hsz := trimSuffix_size s.data.toList 58
  have hnm : ∀ x : Bytes, x.length ≤ s.size → ∀ W, Calls Tryd.prog 87 #[.string (BA x)] W fun e w' => e = .returned (.bool (nameB x)) ∧ Ext W w' := fun x hx W => isName_any (BA x) W (by rw [BA_size]; omega)
  by_cases hl : s.data.toList.getLast? = some 58
  · have hc : nameB s.data.toList.dropLast = false := by
      cases hb : nameB s.data.toList.dropLast with
      | false => rfl
      | true => rw [if_pos ⟨hl, hb⟩] at h; cases h
    rw [trimSuffix_last _ _ hl, suffix_last, hl, decide_eq_true rfl] at hcs
    have hn := hnm s.data.toList.dropLast (by rw [List.length_dropLast]; have : s.data.toList.length = s.size := rfl; omega)
    rw [hc] at hn
    generalize BA s.data.toList.dropLast = n at *
    have H1 := Lib.hid hcs
    have H2 := Lib.hid hn
    clear hcs hnm hc h hn hl hsz
    go_enter Tryd.func54, Tryd.ntmps54
    go_wp2_with fail
    refine (H1.out _).mono ?_
    rintro e w' ⟨rfl, rfl⟩
    go_wp2_with fail
    refine (H2.out _).mono ?_
    rintro e w' ⟨rfl, hx⟩
    go_wp2_with fail
    go_ret2
    exact ⟨_, rfl, ((Ext.refl w).alloc _).trans hx⟩
  · rw [suffix_last, decide_eq_false hl] at hcs
    generalize BA (trimSuffix s.data.toList [58]) = n at *
    have H1 := Lib.hid hcs
    clear hcs hnm h hl hsz
    go_enter Tryd.func54, Tryd.ntmps54
    go_wp2_with fail
    refine (H1.out _).mono ?_
    rintro e w' ⟨rfl, rfl⟩
    go_wp2_with fail
    go_ret2
    exact ⟨_, rfl, (Ext.refl w).alloc _⟩

theorem ref_some (s : ByteArray) (n : Bytes) (line : Value) (w : World) (hs : s.size ≤ maxLen) (h : refN s.data.toList = some n) :
    Calls Tryd.prog 55 #[.agg #[.string s, line]] w fun e w' => e = .returned (.tuple #[.string (BA n), .bool true]) ∧ Ext w w' := by
  have hl2 : s.data.toList.length = s.size := rfl
  unfold refN at h
  split at h
  · rename_i r hd
    split at h
    · rename_i hr
      have hn : r = n := by simpa using h
      subst hn
      have hcs := fun W => cutPrefix_any 38 s W
      have hp : hasPrefix s.data.toList [38] = true := by rw [hd]; simp [hasPrefix]
      have ht : trimPrefix s.data.toList [38] = r := by unfold trimPrefix; rw [hp, if_pos rfl, hd]; rfl
      rw [hp, ht] at hcs
      have hnm := fun W => isName_any (BA r) W (by rw [BA_size]; rw [hd] at hl2; simp at hl2; omega)
      rw [BA_data, hr] at hnm
      have H1 := Lib.hid hcs
      have H2 := Lib.hid hnm
      clear hcs hnm hp ht hd hr h hl2
      go_enter Tryd.func55, Tryd.ntmps55
      go_wp2_with fail
      refine (H1.out _).mono ?_
      rintro e w' ⟨rfl, rfl⟩
      go_wp2_with fail
      refine (H2.out _).mono ?_
      rintro e w' ⟨rfl, hx⟩
      go_wp2_with fail
      go_ret2
      exact ⟨rfl, ((Ext.refl w).alloc _).trans hx⟩
    · cases h
  · cases h
theorem ref_none (s : ByteArray) (line : Value) (w : World) (hs : s.size ≤ maxLen) (h : refN s.data.toList = none) :
    Calls Tryd.prog 55 #[.agg #[.string s, line]] w fun e w' => ∃ x, e = .returned (.tuple #[.string x, .bool false]) ∧ Ext w w' := by
  have hl2 : s.data.toList.length = s.size := rfl
  have hcs := fun W => cutPrefix_any 38 s W
  by_cases hp : hasPrefix s.data.toList [38] = true
  · obtain ⟨r, hd⟩ : ∃ r, s.data.toList = 38 :: r := by
      unfold hasPrefix at hp
      rw [List.isPrefixOf_iff_prefix] at hp
      obtain ⟨t, ht⟩ := hp
      exact ⟨t, ht.symm⟩
    have hr : nameB r = false := by
      cases hb : nameB r with
      | false => rfl
      | true => rw [hd] at h; simp [refN, hb] at h
    have ht : trimPrefix s.data.toList [38] = r := by unfold trimPrefix; rw [hp, if_pos rfl, hd]; rfl
    rw [hp, ht] at hcs
    have hnm := fun W => isName_any (BA r) W (by rw [BA_size]; rw [hd] at hl2; simp at hl2; omega)
    rw [BA_data, hr] at hnm
    have H1 := Lib.hid hcs
    have H2 := Lib.hid hnm
    clear hcs hnm hp ht hd hr h hl2
    go_enter Tryd.func55, Tryd.ntmps55
    go_wp2_with fail
    refine (H1.out _).mono ?_
    rintro e w' ⟨rfl, rfl⟩
    go_wp2_with fail
    refine (H2.out _).mono ?_
    rintro e w' ⟨rfl, hx⟩
    go_wp2_with fail
    go_ret2
    exact ⟨_, rfl, ((Ext.refl w).alloc _).trans hx⟩
  · have hp' : hasPrefix s.data.toList [38] = false := by simpa using hp
    rw [hp'] at hcs
    generalize BA (trimPrefix s.data.toList [38]) = n at *
    have H1 := Lib.hid hcs
    clear hcs hp hp' h hl2
    go_enter Tryd.func55, Tryd.ntmps55
    go_wp2_with fail
    refine (H1.out _).mono ?_
    rintro e w' ⟨rfl, rfl⟩
    go_wp2_with fail
    go_ret2
    exact ⟨_, rfl, (Ext.refl w).alloc _⟩

theorem isCode_any (s : ByteArray) (line : Value) (w : World) (hs : s.size ≤ maxLen) :
    Calls Tryd.prog 56 #[.agg #[.string s, line]] w fun e w' => e = .returned (.bool (codeB s.data.toList)) ∧ Ext w w' := by
  have htr := fun W => trim_any cdCs (by decide) (by decide) s W hs
  have e : codeB s.data.toList = s.data.toList.all (cdCs.contains ·) := by
    unfold codeB
    rw [show isCd = (cdCs.contains ·) from (funext cd_eq).symm]
  rw [e]
  generalize (s.data.toList.all (cdCs.contains ·)) = good at *
  unfold cdCs at htr
  have HT := Lib.hid htr
  clear htr e
  go_enter Tryd.func56, Tryd.ntmps56
  go_wp2_with fail
  refine (HT.out _).mono ?_
  rintro e w1 ⟨r, rfl, hr, hx⟩
  have HR := Lib.hid hr
  clear hr
  go_wp2_with fail
  go_ret
  exact ⟨ret_bool (by simpa using HR.out), ((Ext.refl w).alloc _).trans hx⟩

theorem isDigit_any (c : UInt8) (w : World) :
    Calls Tryd.prog 35 #[.int .u8 (c.toNat : Int)] w fun e w' => e = .returned (.bool (isDig c)) ∧ w = w' := by
  have e : isDig c = (decide (48 ≤ ((c.toNat : Nat) : Int)) && decide (((c.toNat : Nat) : Int) ≤ 57)) := by
    unfold isDig
    rw [Bool.eq_iff_iff]; simp; omega
  rw [e]
  by_cases h1 : 48 ≤ ((c.toNat : Nat) : Int)
  · go_enter Tryd.func35, Tryd.ntmps35
    go_wp2_with fail
    go_ret
    exact ⟨ret_bool (by simp [h1]), rfl⟩
  · go_enter Tryd.func35, Tryd.ntmps35
    go_wp2_with fail
    go_ret
    exact ⟨ret_bool (by rw [decide_eq_false (by omega)]; rfl), rfl⟩
end Go.Proofs.YtimegcnpembhkaaDoor
