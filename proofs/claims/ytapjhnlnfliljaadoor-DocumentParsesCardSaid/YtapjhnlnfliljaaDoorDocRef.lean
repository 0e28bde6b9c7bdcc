/- The reference's Words. (Layer 49) -/
import Derived.Test.YtapjhnlnfliljaaDoorDocLaws4
namespace Go.Proofs.YtapjhnlnfliljaaDoor
open Go.RowKit
open Go.Lib hiding intOf
open Dec
set_option linter.unusedVariables false

theorem drop_get (s : ByteArray) (k : Nat) (h : k < s.size) : s.data.toList.drop k = s[k] :: s.data.toList.drop (k + 1) := List.drop_eq_getElem_cons (show k < s.data.toList.length from h)
def addW (out : List Bytes) (word : Bytes) : List Bytes := if word = [] then out else out ++ [word]
theorem kept_sp (word r : Bytes) (out : List Bytes) : out ++ keptA (cutAt 32 word (32 :: r)) = addW out word ++ keptA (cutAt 32 [] r) := by
  rw [cutAt, if_pos rfl]
  unfold keptA addW
  rw [List.filter_cons]
  by_cases h : word = []
  · subst h; simp
  · simp [h]
theorem kept_end (word : Bytes) (out : List Bytes) : out ++ keptA (cutAt 32 word []) = addW out word := by
  unfold keptA addW
  rw [cutAt, List.filter_cons]
  by_cases h : word = []
  · subst h; simp
  · simp [h]
set_option maxRecDepth 100000 in
set_option maxHeartbeats 3200000 in
theorem rwords_any (s : ByteArray) (w : World) (hs : s.size ≤ 100000) :
    Calls Tryd.prog 14 #[.string s] w fun e w' => ∃ v, e = .returned v ∧ w'.ownsRow w.heap.size 9 1 v (wordsA s.data.toList).length (strsV (wordsA s.data.toList)) ∧ Ext w w' := by
  obtain ⟨i0, hi, hz0, hz1, hz2⟩ := info_parts strInfo
  obtain ⟨R, hR⟩ : ∃ R, R = wordsA s.data.toList := ⟨_, rfl⟩
  rw [← hR]
  have hR2 : R = [] ++ keptA (cutAt 32 [] (s.data.toList.drop 0)) := by rw [hR]; rfl
  have HR := Lib.hid hR2
  clear hR hR2
  have hOw : (w.alloc (.cells #[] 9)).ownsRow w.heap.size 9 1 (.slice (some ⟨w.heap.size, 0, none⟩) 0 0) 0 (strsV []) := ⟨rfl, .inr ⟨w.heap.size, 0, #[], rfl, Nat.le_refl _, heap_alloc_new w _, Nat.le_refl _, Nat.zero_le _, rfl, rfl⟩⟩
  have HOW := Lib.hid hOw
  clear hOw
  go_enter Tryd.func14, Tryd.ntmps14
  go_wp2_with fail
  go_loopw [3, 4, 5] (fun o wd i wr => ∃ (k : Nat) (word : Bytes) (out : List Bytes), k ≤ s.size + 1 ∧ i = .int .i64 k ∧ wd = .string (BA word) ∧ (k ≤ s.size → R = out ++ keptA (cutAt 32 word (s.data.toList.drop k))) ∧ (k = s.size + 1 → R = out) ∧ word.length ≤ k ∧ out.length ≤ k ∧ wr.ownsRow w.heap.size 9 1 o out.length (strsV out) ∧ Ext w wr) (fun _ _ i _ => s.size + 1 - (intOf i).toNat)
  case atStart => exact ⟨0, [], [], Nat.zero_le _, rfl, rfl, fun _ => HR.out, fun h => (by omega), Nat.le_refl _, Nat.le_refl _, HOW.out, (Ext.refl w).alloc _⟩
  case round =>
    obtain ⟨k, word, out, hk, rfl, rfl, hgo, hend, hwl, hol, hown, hx⟩ := hrel
    by_cases hks : k < s.size
    · have hgo := hgo (by omega)
      rw [drop_get s k hks] at hgo
      clear hend
      by_cases h32 : s[k] = 32
      · have h2 : (((s[k].toNat : Nat) : Int) != 32) = false := by rw [h32]; rfl
        rw [h32, kept_sp] at hgo
        have hgo := Lib.hid hgo
        have HO := Lib.hid hown
        clear hown
        by_cases hw0 : word = []
        · have g1 : (BA word).toList.isEmpty = true := by rw [ByteArray.toList_eq, BA_data, hw0]; rfl
          have hnx : Hid (R = out ++ keptA (cutAt 32 [] (s.data.toList.drop (k + 1)))) := by
            show _ = _
            rw [hgo.out, addW, if_pos hw0]
          clear hgo hw0
          generalize BA word = WD at *
          go_wp2_with fail
          go_roundw
          case rel => exact ⟨k + 1, [], out, by omega, by go_num, rfl, fun _ => hnx.out, fun h => absurd h (by omega), Nat.zero_le _, by omega, HO.out, hx⟩
          case measure => (simp [intOf] <;> omega)
        · have g1 : (BA word).toList.isEmpty = false := by
            rw [ByteArray.toList_eq, BA_data]
            cases word with
            | nil => exact absurd rfl hw0
            | cons a b => rfl
          have hnx : Hid (R = out ++ [word] ++ keptA (cutAt 32 [] (s.data.toList.drop (k + 1)))) := by
            show _ = _
            rw [hgo.out, addW, if_neg hw0]
          have hst : Hid (strsV (out ++ [word]) = strsV out ++ [.string (BA word)]) := strsV_snoc out word
          have hx2 := hx
          clear hgo hw0
          generalize BA word = WD at *
          go_wp2_with (at_builtin; refine wpList_append_own _ rfl (.tmp 32) (.tmp 34) _ rfl w.heap.size 9 i0 _ 1 16 Tryd.underlying30 hi hz0 hz1 hz2 rfl (by omega) _ _ _ rfl (HO.out.alloc _) ⟨wr.heap.size, 0, none⟩ 1 1 [.string WD] rfl rfl ?c1 ?c2 ?c3 ?c4 ?c5 ?_)
          case c1 =>
            intro j u hu
            match j, hu with
            | 0, hu => simp at hu; subst hu; go_cell
          case c2 =>
            intro u hu
            simp at hu
            subst hu; rfl
          case c3 => unfold maxLen; omega
          case c4 => omega
          case c5 => (have hc5 := hx2.size; try simp at hc5); simp; omega
          intro v' w2 hown2 hgr _
          have hx3 := (hx2.alloc (.cells #[.string WD] 9)).grown hgr (fun k hk => (HO.out.lt k hk).1)
          have HO2 := Lib.hid hown2
          have HG := Lib.hid hgr
          clear hown2 hgr
          go_wp2_with fail
          go_roundw
          case rel => exact ⟨k + 1, [], out ++ [word], by omega, by go_num, rfl, fun _ => hnx.out, fun h => absurd h (by omega), Nat.zero_le _, by simp; omega, by rw [hst.out, List.length_append]; exact HO2.out, hx3⟩
          case measure => (simp [intOf] <;> omega)
      · have h2 : (((s[k].toNat : Nat) : Int) != 32) = true := by
          simp only [bne_iff_ne, ne_eq]
          intro h
          apply h32
          apply UInt8.toNat_inj.1
          have : s[k].toNat = 32 := by omega
          rw [this]; rfl
        have hn : Hid (R = out ++ keptA (cutAt 32 (word ++ [s[k]]) (s.data.toList.drop (k + 1)))) := by
          show _ = _
          rw [hgo, cutAt, if_neg h32]
        have hcat : Hid (BA word ++ s.extract k (k + 1) = BA (word ++ [s[k]])) := by
          show _ = _
          apply ByteArray.ext
          apply Array.ext'
          rw [ByteArray.data_append, Array.toList_append, BA_data, BA_data, ext_oneB s k hks]
        have hbz : (BA word).size ≤ 200000 := by rw [BA_size]; omega
        have HO := Lib.hid hown
        clear hown hgo
        go_wp2_with fail
        go_roundw
        case rel => exact ⟨k + 1, word ++ [s[k]], out, by omega, by go_num, by rw [hcat.out], fun _ => hn.out, fun h => absurd h (by omega), by simp; omega, by omega, HO.out, hx⟩
        case measure => (simp [intOf] <;> omega)
    · by_cases hke : k = s.size
      · subst hke
        have hgo := hgo (Nat.le_refl _)
        rw [List.drop_of_length_le (by exact Nat.le_refl _), kept_end] at hgo
        have hgo := Lib.hid hgo
        have HO := Lib.hid hown
        clear hown hend
        by_cases hw0 : word = []
        · have g1 : (BA word).toList.isEmpty = true := by rw [ByteArray.toList_eq, BA_data, hw0]; rfl
          have hnx : Hid (R = out) := by
            show _ = _
            rw [hgo.out, addW, if_pos hw0]
          clear hgo hw0
          generalize BA word = WD at *
          go_wp2_with fail
          go_roundw
          case rel => exact ⟨s.size + 1, [], out, by omega, by go_num, rfl, fun h => absurd h (by omega), fun _ => hnx.out, Nat.zero_le _, by omega, HO.out, hx⟩
          case measure => (simp [intOf] <;> omega)
        · have g1 : (BA word).toList.isEmpty = false := by
            rw [ByteArray.toList_eq, BA_data]
            cases word with
            | nil => exact absurd rfl hw0
            | cons a b => rfl
          have hnx : Hid (R = out ++ [word]) := by
            show _ = _
            rw [hgo.out, addW, if_neg hw0]
          have hst : Hid (strsV (out ++ [word]) = strsV out ++ [.string (BA word)]) := strsV_snoc out word
          have hx2 := hx
          clear hgo hw0
          generalize BA word = WD at *
          go_wp2_with (at_builtin; refine wpList_append_own _ rfl (.tmp 32) (.tmp 34) _ rfl w.heap.size 9 i0 _ 1 16 Tryd.underlying30 hi hz0 hz1 hz2 rfl (by omega) _ _ _ rfl (HO.out.alloc _) ⟨wr.heap.size, 0, none⟩ 1 1 [.string WD] rfl rfl ?c1 ?c2 ?c3 ?c4 ?c5 ?_)
          case c1 =>
            intro j u hu
            match j, hu with
            | 0, hu => simp at hu; subst hu; go_cell
          case c2 =>
            intro u hu
            simp at hu
            subst hu; rfl
          case c3 => unfold maxLen; omega
          case c4 => omega
          case c5 => (have hc5 := hx2.size; try simp at hc5); simp; omega
          intro v' w2 hown2 hgr _
          have hx3 := (hx2.alloc (.cells #[.string WD] 9)).grown hgr (fun k hk => (HO.out.lt k hk).1)
          have HO2 := Lib.hid hown2
          have HG := Lib.hid hgr
          clear hown2 hgr
          go_wp2_with fail
          go_roundw
          case rel => exact ⟨s.size + 1, [], out ++ [word], by omega, by go_num, rfl, fun h => absurd h (by omega), fun _ => hnx.out, Nat.zero_le _, by simp; omega, by rw [hst.out, List.length_append]; exact HO2.out, hx3⟩
          case measure => (simp [intOf] <;> omega)
      · obtain rfl : k = s.size + 1 := by omega
        have hfin := hend rfl
        have HO := Lib.hid hown
        clear hown hgo hend
        subst hfin
        go_wp2_with fail
        go_ret
        exact ⟨_, rfl, HO.out, hx⟩
end Go.Proofs.YtapjhnlnfliljaaDoor
