/- The library as documents use it: Trim, Cut, Atoi, Contains, HasPrefix, Join. (Layer 49) -/
import Derived.Test.YtapjhnlnfliljaaDoorDocWords
import Derived.Test.YtapjhnlnfliljaaDoorDocLawP
import Derived.Lib.AtoiTie
import Derived.Lib.AtoiAllCases
import Derived.Lib.IndexMore
namespace Go.Proofs.YtapjhnlnfliljaaDoor
open Go.RowKit
open Go.Lib hiding intOf
open Dec
set_option linter.unusedVariables false

/-- the errors' variables hold errors -/
def Sy (w : World) : Prop := (∃ ev, w.cell? ⟨3, 0, none⟩ = some ev ∧ (ev = .nilIface ∨ ∃ te pe, ev = .iface te pe)) ∧ ∃ ev, w.cell? ⟨4, 0, none⟩ = some ev ∧ (ev = .nilIface ∨ ∃ te pe, ev = .iface te pe)
theorem Sy.ext {w w' : World} (h : Sy w) (hx : Ext w w') : Sy w' := let ⟨⟨ev, h1, h2⟩, ⟨ev2, h3, h4⟩⟩ := h; ⟨⟨ev, hx.cell h1, h2⟩, ⟨ev2, hx.cell h3, h4⟩⟩
theorem trimD_any (s : ByteArray) (w : World) (hs : s.size ≤ 100001) :
    Calls Tryd.prog 54 #[.string s, .string ⟨#[32]⟩] w fun e w' => e = .returned (.string (BA (trimA s.data.toList))) ∧ Ext w w' := by
  refine (Tryd.strings_Trim_one s 32 (by decide) w (by omega)).mono ?_
  rintro e w' ⟨rfl, h⟩
  refine ⟨rfl, ?_⟩
  rcases h with rfl | rfl
  · exact Ext.refl _
  · exact (Ext.refl _).drew
theorem tw_self (p : UInt8 → Bool) : ∀ l : Bytes, (∀ x ∈ l, p x = true) → l.takeWhile p = l
  | [], _ => rfl
  | x :: l, h => by rw [List.takeWhile_cons, h x List.mem_cons_self, if_pos rfl, tw_self p l (fun y hy => h y (List.mem_cons_of_mem _ hy))]
theorem tw_mem (c : UInt8) : ∀ (l : Bytes) (x : UInt8), x ∈ l.takeWhile (· ≠ c) → x ≠ c
  | y :: l, x, h => by
    rw [List.takeWhile_cons] at h
    split at h
    · rename_i hy
      rcases List.mem_cons.1 h with rfl | h
      · simpa using hy
      · exact tw_mem c l x h
    · cases h
theorem index1_mem (l : Bytes) (c : UInt8) : (0 ≤ index l [c]) ↔ c ∈ l := by
  induction l with
  | nil => simp [index]
  | cons b l ih =>
    by_cases h : b = c
    · subst h; rw [index_cons_eq]; simp
    · rw [index_cons_ne b c l h]
      have hg := index_ge l [c]
      have : (c = b ∨ c ∈ l) ↔ c ∈ l := ⟨fun h' => h'.elim (fun e => absurd e.symm h) id, .inr⟩
      rw [List.mem_cons, this, ← ih]
      split <;> omega
theorem index1_tw (l : Bytes) (c : UInt8) (h : c ∈ l) : (index l [c]).toNat = (l.takeWhile (· ≠ c)).length := by
  have h1 := cut_takeWhile c l
  have h0 := (index1_mem l c).2 h
  unfold Lib.cut at h1
  rw [if_pos h0] at h1
  rw [← h1]
  show _ = (l.take (index l [c]).toNat).length
  rw [List.length_take]
  have : (index l [c]).toNat ≤ l.length := by
    have := congrArg List.length h1
    simp only [List.length_take] at this
    rcases Nat.lt_or_ge l.length (index l [c]).toNat with h2 | h2
    · have hne : (l.takeWhile (· ≠ c)).length < l.length := by
        rcases Nat.lt_or_ge (l.takeWhile (· ≠ c)).length l.length with h4 | h4
        · exact h4
        · have h5 : l.takeWhile (· ≠ c) = l := (List.takeWhile_prefix _).eq_of_length (by have := (List.takeWhile_prefix (l := l) (fun x : UInt8 => decide (x ≠ c))).length_le; omega)
          have h6 : ∀ x ∈ l, x ≠ c := by
            intro x hx
            rw [← h5] at hx
            exact tw_mem _ l x hx
          exact absurd rfl (h6 c h)
      omega
    · exact h2
  omega
/-- strings.Cut at a space -/
theorem cutD_any (s : ByteArray) (w : World) (hs : s.size ≤ 100000) (hE : Env w) :
    Calls Tryd.prog 55 #[.string s, .string ⟨#[32]⟩] w fun e w' => e = .returned (.tuple #[.string (BA (s.data.toList.takeWhile (· ≠ 32))), .string (BA (s.data.toList.drop ((s.data.toList.takeWhile (· ≠ 32)).length + 1))), .bool (s.data.toList.contains 32)]) ∧ Ext w w' := by
  obtain ⟨m, hm⟩ := hE.maxLen
  refine (Tryd.strings_Cut s ⟨#[32]⟩ m w (by omega) hm).mono ?_
  rintro e w' ⟨rfl, n, rfl⟩
  refine ⟨?_, (Ext.refl w).drewN n⟩
  have e1 := cut_takeWhile 32 s.data.toList
  have e23 : (Lib.cut s.data.toList [32]).2.1 = s.data.toList.drop ((s.data.toList.takeWhile (· ≠ 32)).length + 1) ∧ (Lib.cut s.data.toList [32]).2.2 = s.data.toList.contains 32 := by
    unfold Lib.cut
    by_cases h : (32 : UInt8) ∈ s.data.toList
    · rw [if_pos ((index1_mem _ _).2 h), index1_tw _ _ h]
      exact ⟨rfl, by simp [h]⟩
    · rw [if_neg (fun e => h ((index1_mem _ _).1 e))]
      have : s.data.toList.takeWhile (· ≠ 32) = s.data.toList := by
        exact tw_self _ _ (fun x hx => by simp; exact fun e => h (e ▸ hx))
      rw [this]
      exact ⟨by simp, by simp [h]⟩
  show Ending.returned (.tuple #[.string (BA (Lib.cut s.data.toList [32]).1), .string (BA (Lib.cut s.data.toList [32]).2.1), .bool (Lib.cut s.data.toList [32]).2.2]) = _
  rw [e1, e23.1, e23.2]
/-- strconv.Atoi -/
theorem atoiD_any (p : Bytes) (w : World) (hp : p.length ≤ 100000) (hS : Sy w) :
    Calls Tryd.prog 56 #[.string (BA p)] w fun e w' => ∃ v ev, e = .returned (.tuple #[.int .i64 v, ev]) ∧ Ext w w' ∧ -9223372036854775808 ≤ v ∧ v ≤ 9223372036854775807 ∧ ((Lib.atoiAll p = .ok v ∧ ev = .nilIface) ∨ ((∀ v', Lib.atoiAll p ≠ .ok v') ∧ ∃ T q, ev = .iface T q)) := by
  obtain ⟨⟨e1, h1, h2⟩, ⟨e2, h3, h4⟩⟩ := hS
  cases h : Lib.atoiAll p with
  | ok v =>
    refine (Tryd.strconv_Atoi_ok (BA p) (by rw [BA_size]; omega) v h w).mono ?_
    rintro e w' ⟨rfl, hw⟩
    have hb := atoiAll_bounds h
    refine ⟨v, .nilIface, rfl, ?_, hb.1, hb.2, .inl ⟨rfl, rfl⟩⟩
    rcases hw with rfl | ⟨t, rfl⟩
    · exact Ext.refl _
    · exact Lib.bytesWorld_below _ _ _
  | range =>
    refine (Tryd.strconv_Atoi_range (BA p) (by rw [BA_size]; omega) h e2 w h3 h4).mono ?_
    rintro e w' ⟨N, rfl, -, -, hx⟩
    have hb := atoiSat_bounds p
    exact ⟨_, _, rfl, hx, hb.1, hb.2, .inr ⟨fun v' e => (by cases e), _, _, rfl⟩⟩
  | _ =>
    refine (Any.strconv_Atoi_syntax Tryd.laysC172 (BA p) (by rw [BA_size]; omega) h e1 w h1 h2).mono ?_
    rintro e w' ⟨N, rfl, -, -, hx⟩
    exact ⟨_, _, rfl, hx, by decide, by decide, .inr ⟨fun v' e => (by cases e), _, _, rfl⟩⟩
/-- the number is written as it is written -/
theorem width_iff (p : Bytes) (v : Int) (h : Lib.atoiAll p = .ok v) : (Lib.itoa v = p ∧ 1 ≤ v ∧ v ≤ 200) ↔ widthA p = some v.toNat ∧ 1 ≤ v := by
  constructor
  · rintro ⟨h1, h2, h3⟩
    refine ⟨?_, h2⟩
    have h4 : p = decDigits v.toNat := by rw [← h1]; unfold Lib.itoa; rw [if_neg (by omega)]
    have hv := val_dec v.toNat
    have hne : (decDigits v.toNat).head? ≠ some 48 := by
      obtain ⟨c, r, e, hc⟩ := dec_head v.toNat (by omega)
      rw [e]
      simpa using hc
    unfold widthA
    rw [h4, hv]
    exact if_pos ⟨dec_ne _, List.all_eq_true.2 (dec_dig _), hne, by omega⟩
  · rintro ⟨h1, h2⟩
    obtain ⟨h3, h4, h5⟩ := widthA_some h1
    exact ⟨by rw [h3]; unfold Lib.itoa; rw [if_neg (by omega)], h2, by omega⟩
theorem width_none (p : Bytes) (h : ∀ v', Lib.atoiAll p ≠ .ok v') : widthA p = none := by
  cases hw : widthA p with
  | none => rfl
  | some n =>
    obtain ⟨h3, h4, h5⟩ := widthA_some hw
    exfalso
    have hl := dec_len (n := n) (k := 2) (by omega)
    have := atoiAll_short p (by rw [h3]; omega)
    rw [h3, atoi_dec] at this
    rw [h3] at h
    exact h _ this
theorem width_ok (p : Bytes) (n : Nat) (v : Int) (hw : widthA p = some n) (h : Lib.atoiAll p = .ok v) : v = (n : Int) := by
  obtain ⟨h3, h4, h5⟩ := widthA_some hw
  have hl := dec_len (n := n) (k := 2) (by omega)
  have := atoiAll_short p (by rw [h3]; omega)
  rw [h] at this
  rw [h3, atoi_dec] at this
  injection this
theorem containsD_any (l : Bytes) (w : World) :
    Calls Tryd.prog 16 #[.string (BA l), .string ⟨#[32]⟩] w fun e w' => e = .returned (.bool (l.contains 32)) ∧ w = w' := by
  refine (Tryd.strings_Contains_one (BA l) 32 w).mono ?_
  rintro e w' ⟨rfl, rfl⟩
  refine ⟨ret_bool ?_, rfl⟩
  rw [BA_data, Bool.eq_iff_iff, decide_eq_true_iff]
  have hg := indexByte_ge l 32
  by_cases h : (32 : UInt8) ∈ l
  · simp only [List.contains_iff_mem.2 h, iff_true]
    rcases Int.lt_or_le (indexByte l 32) 0 with h0 | h0
    · exfalso
      obtain ⟨k, hk, e⟩ := List.mem_iff_getElem.1 h
      exact indexByte_none (l := l) (c := 32) (by omega) k (by rw [List.getElem?_eq_getElem hk, e])
    · exact h0
  · have hf : l.contains 32 = false := by simpa using h
    rw [hf]
    simp only [Bool.false_eq_true, iff_false]
    intro h0
    have := (indexByte_some (l := l) (c := 32) (o := (indexByte l 32).toNat) (by omega)).1
    exact h (List.mem_of_getElem? this)
theorem prefixD_any (s p : ByteArray) (w : World) : Calls Tryd.prog 36 #[.string s, .string p] w fun e w' => e = .returned (.bool (hasPrefix s.data.toList p.data.toList)) ∧ w = w' :=
  (Tryd.strings_HasPrefix s p w).mono fun e w' ⟨he, hw⟩ => ⟨he, hw.symm⟩
theorem join_joinA (sep : Bytes) : ∀ l : List Bytes, Lib.join l sep = joinA sep l
  | [] => by simp [Lib.join, joinA]
  | [x] => by simp [Lib.join, joinA]
  | x :: y :: r => by
    have ih := join_joinA sep (y :: r)
    unfold Lib.join at ih ⊢
    rw [joinA, ← ih, List.intercalate_cons_cons]
/-- strings.Join -/
theorem joinD_any (sep : ByteArray) (m : Nat) (v : Value) (l : List Bytes) (w : World) (h : SL w m v l) (hz : (joinA sep.data.toList l).length ≤ 100000000) (hn : l.length ≤ 100000000) :
    Calls Tryd.prog 15 #[v, .string sep] w fun e w' => e = .returned (.string (BA (joinA sep.data.toList l))) ∧ Ext w w' := by
  obtain ⟨A, c, rfl, h0, hl, hs⟩ := h
  cases l with
  | nil => exact (Tryd.strings_Join_none A c sep w).mono fun e w' ⟨he, hw⟩ => ⟨he, hw ▸ Ext.refl _⟩
  | cons x r =>
    obtain ⟨b, off, rfl, hc⟩ := hl.at_ (by simp)
    have hmap : ((x :: r).map BA).map (·.data.toList) = x :: r := by
      rw [List.map_map]
      conv => rhs; rw [← List.map_id (x :: r)]
      rfl
    have hb : b < w.heap.size := let ⟨_, _, k⟩ := (hs.2 _ rfl).2; heap_lt k
    have h1 := Tryd.strings_Join b off c ((x :: r).map BA) sep w (fun j y hy => by
      have hj : j < (x :: r).length := by
        have := (List.getElem?_eq_some_iff.1 hy).1
        rwa [List.length_map] at this
      have := hc j (by rw [strsV_len]; exact hj)
      rw [this]
      rw [List.getElem?_eq_getElem (by rw [List.length_map]; exact hj)] at hy
      rw [← Option.some.inj hy]
      simp only [strsV, List.getElem_map]) hb (by rw [List.length_map]; omega) (by rw [List.length_map]; exact hl.room) (by rw [hmap, join_joinA]; omega)
    rw [hmap, join_joinA, List.length_map] at h1
    exact h1
end Go.Proofs.YtapjhnlnfliljaaDoor
