/- The reference's Lines and trim. (Layer 49) -/
import Derived.Test.YtapjhnlnfliljaaDoorDocRef
import Derived.Test.YtapjhnlnfliljaaDoorDocRefP
namespace Go.Proofs.YtapjhnlnfliljaaDoor
open Go.RowKit
open Go.Lib hiding intOf
open Dec
set_option linter.unusedVariables false

/-- the bytes from a on, up to b -/
def cutB (l : Bytes) (a b : Nat) : Bytes := (l.drop a).take (b - a)
theorem cutB_self (l : Bytes) (a : Nat) : cutB l a a = [] := by unfold cutB; rw [Nat.sub_self, List.take_zero]
theorem cutB_snoc (l : Bytes) (a b : Nat) (hab : a ≤ b) (hb : b < l.length) : cutB l a (b + 1) = cutB l a b ++ [l[b]] := by
  unfold cutB
  rw [show b + 1 - a = (b - a) + 1 by omega, List.take_succ_eq_append_getElem (by rw [List.length_drop]; omega), List.getElem_drop]
  congr 2
  simp only [show a + (b - a) = b by omega]
theorem ext_cutB (s : ByteArray) (a b : Nat) : s.extract a b = BA (cutB s.data.toList a b) := ext_BA s a b
def strLen : Value → Nat
  | .string s => s.size
  | _ => 0
set_option maxRecDepth 100000 in
set_option maxHeartbeats 3200000 in
theorem rlines_any (s : ByteArray) (w : World) (hs : s.size ≤ 100000) :
    Calls Tryd.prog 22 #[.string s] w fun e w' => ∃ v, e = .returned v ∧ w'.ownsRow w.heap.size 9 1 v (linesA s.data.toList).length (strsV (linesA s.data.toList)) ∧ Ext w w' := by
  obtain ⟨i0, hi, hz0, hz1, hz2⟩ := info_parts strInfo
  have hsl : s.data.toList.length = s.size := by simp
  obtain ⟨R, hR⟩ : ∃ R, R = linesA s.data.toList := ⟨_, rfl⟩
  rw [← hR]
  have hR2 : R = [] ++ cutAt 10 (cutB s.data.toList 0 0) (s.data.toList.drop 0) := by rw [hR, cutB_self]; rfl
  have HR := Lib.hid hR2
  have HSL := Lib.hid hsl
  clear hR hR2 hsl
  have hOw : (w.alloc (.cells #[] 9)).ownsRow w.heap.size 9 1 (.slice (some ⟨w.heap.size, 0, none⟩) 0 0) 0 (strsV []) := ⟨rfl, .inr ⟨w.heap.size, 0, #[], rfl, Nat.le_refl _, heap_alloc_new w _, Nat.le_refl _, Nat.zero_le _, rfl, rfl⟩⟩
  have HOW := Lib.hid hOw
  clear hOw
  go_enter Tryd.func22, Tryd.ntmps22
  go_wp2_with fail
  go_loopw [3, 4, 5] (fun o f i wr => ∃ (k from' : Nat) (out : List Bytes), k ≤ s.size ∧ from' ≤ k ∧ i = .int .i64 k ∧ f = .int .i64 from' ∧ R = out ++ cutAt 10 (cutB s.data.toList from' k) (s.data.toList.drop k) ∧ out.length ≤ k ∧ wr.ownsRow w.heap.size 9 1 o out.length (strsV out) ∧ Ext w wr) (fun _ _ i _ => s.size - (intOf i).toNat)
  case atStart => exact ⟨0, 0, [], Nat.zero_le _, Nat.le_refl _, rfl, rfl, HR.out, Nat.le_refl _, HOW.out, (Ext.refl w).alloc _⟩
  case round =>
    obtain ⟨k, f, out, hk, hfk, rfl, rfl, hgo, hol, hown, hx⟩ := hrel
    by_cases hks : k < s.size
    · rw [drop_get s k hks] at hgo
      by_cases h10 : s[k] = 10
      · have h2 : (((s[k].toNat : Nat) : Int) == 10) = true := by rw [h10]; rfl
        rw [h10, cutAt, if_pos rfl] at hgo
        have hgo := Lib.hid hgo
        have HO := Lib.hid hown
        clear hown
        have hnx : Hid (R = out ++ [cutB s.data.toList f k] ++ cutAt 10 (cutB s.data.toList (k + 1) (k + 1)) (s.data.toList.drop (k + 1))) := by
          show _ = _
          rw [hgo.out, cutB_self, List.append_assoc, List.singleton_append]
        have hst : Hid (strsV (out ++ [cutB s.data.toList f k]) = strsV out ++ [.string (s.extract f k)]) := by
          show _ = _
          rw [strsV_snoc, ext_cutB]
        have hx2 := hx
        clear hgo
        generalize cutB s.data.toList f k = P at *
        go_wp2_with (at_builtin; refine wpList_append_own _ rfl (.tmp 17) (.tmp 22) _ rfl w.heap.size 9 i0 _ 1 16 Tryd.underlying30 hi hz0 hz1 hz2 rfl (by omega) _ _ _ rfl (HO.out.alloc _) ⟨wr.heap.size, 0, none⟩ 1 1 [.string (s.extract f k)] rfl rfl ?c1 ?c2 ?c3 ?c4 ?c5 ?_)
        case c1 =>
          intro j u hu
          match j, hu with
          | 0, hu => simp at hu; subst hu; go_cell
        case c2 =>
          intro u hu
          simp at hu
          subst hu; rfl
        case c3 => unfold maxLen; omega
        case c4 => omega
        case c5 => (have hc5 := hx2.size; try simp at hc5); simp; omega
        intro v' w2 hown2 hgr _
        have hx3 := (hx2.alloc (.cells #[.string (s.extract f k)] 9)).grown hgr (fun k hk => (HO.out.lt k hk).1)
        have HO2 := Lib.hid hown2
        have HG := Lib.hid hgr
        clear hown2 hgr
        go_wp2_with fail
        go_roundw
        case rel => exact ⟨k + 1, k + 1, out ++ [P], by omega, Nat.le_refl _, by go_num, by go_num, hnx.out, by simp; omega, by rw [hst.out, List.length_append]; exact HO2.out, hx3⟩
        case measure => (simp [intOf] <;> omega)
      · have h2 : (((s[k].toNat : Nat) : Int) == 10) = false := by
          rw [beq_eq_false_iff_ne]
          intro h
          apply h10
          apply UInt8.toNat_inj.1
          have : s[k].toNat = 10 := by omega
          rw [this]; rfl
        have hkl : k < s.data.toList.length := by rw [HSL.out]; exact hks
        have hn : Hid (R = out ++ cutAt 10 (cutB s.data.toList f (k + 1)) (s.data.toList.drop (k + 1))) := by
          show _ = _
          rw [hgo, cutAt, if_neg h10, cutB_snoc _ f k hfk hkl]
          rfl
        have HO := Lib.hid hown
        clear hown hgo hkl
        go_wp2_with fail
        go_roundw
        case rel => exact ⟨k + 1, f, out, by omega, by omega, by go_num, rfl, hn.out, by omega, HO.out, hx⟩
        case measure => (simp [intOf] <;> omega)
    · obtain rfl : k = s.size := by omega
      rw [List.drop_of_length_le (by rw [HSL.out]; exact Nat.le_refl _), cutAt] at hgo
      have hst : Hid (strsV R = strsV out ++ [.string (s.extract f s.size)]) := by
        show _ = _
        rw [hgo, strsV_snoc, ext_cutB]
      have hRl : Hid (R.length = out.length + 1) := by show _ = _; rw [hgo, List.length_append]; rfl
      have HO := Lib.hid hown
      clear hown hgo
      have hx2 := hx
      go_wp2_with (at_builtin; refine wpList_append_own _ rfl (.tmp 26) (.tmp 30) _ rfl w.heap.size 9 i0 _ 1 16 Tryd.underlying30 hi hz0 hz1 hz2 rfl (by omega) _ _ _ rfl (HO.out.alloc _) ⟨wr.heap.size, 0, none⟩ 1 1 [.string (s.extract f s.size)] rfl rfl ?d1 ?d2 ?d3 ?d4 ?d5 ?_)
      case d1 =>
        intro j u hu
        match j, hu with
        | 0, hu => simp at hu; subst hu; go_cell
      case d2 =>
        intro u hu
        simp at hu
        subst hu; rfl
      case d3 => unfold maxLen; omega
      case d4 => omega
      case d5 => (have hc5 := hx2.size; try simp at hc5); simp; omega
      intro v' w2 hown2 hgr _
      have hx3 := (hx2.alloc (.cells #[.string (s.extract f s.size)] 9)).grown hgr (fun k hk => (HO.out.lt k hk).1)
      have HO2 := Lib.hid hown2
      have HG := Lib.hid hgr
      clear hown2 hgr
      go_wp2_with fail
      go_ret
      exact ⟨_, rfl, by rw [hst.out, hRl.out]; exact HO2.out, hx3⟩
theorem first_get (X : ByteArray) (h : 0 < X.size) : X.data.toList = X[0] :: (X.extract 1 X.size).data.toList := by
  have h1 := drop_get X 0 h
  rw [List.drop_zero] at h1
  rw [h1, ext_BA, BA_data]
  congr 1
  rw [List.take_of_length_le (by rw [List.length_drop]; simp)]
theorem last_get (X : ByteArray) (h : 0 < X.size) : X.data.toList = (X.extract 0 (X.size - 1)).data.toList ++ [X[X.size - 1]] := by
  rw [ext_BA, BA_data, List.drop_zero, Nat.sub_zero]
  have hl : X.data.toList.length = X.size := by simp
  have h2 := List.take_succ_eq_append_getElem (l := X.data.toList) (i := X.size - 1) (by omega)
  rw [show X.size - 1 + 1 = X.size by omega, List.take_of_length_le (by omega)] at h2
  exact h2
theorem byte_eq (c : UInt8) (n : Nat) (hn : n < 256) : (((c.toNat : Nat) : Int) == (n : Int)) = decide (c = UInt8.ofNat n) := by
  rw [Bool.eq_iff_iff, beq_iff_eq, decide_eq_true_iff]
  constructor
  · intro h
    apply UInt8.toNat_inj.1
    rw [UInt8.toNat_ofNat']
    omega
  · intro h
    rw [h, UInt8.toNat_ofNat']
    omega
theorem nil_of_size (X : ByteArray) (h : ¬ 0 < X.size) : X.data.toList = [] := by
  apply List.eq_nil_of_length_eq_zero
  rw [Array.length_toList]
  show X.size = 0
  omega
set_option maxRecDepth 100000 in
set_option maxHeartbeats 3200000 in
theorem rtrim_any (s : ByteArray) (w : World) (hs : s.size ≤ 100000) :
    Calls Tryd.prog 57 #[.string s] w fun e w' => e = .returned (.string (BA (trimA s.data.toList))) ∧ w = w' := by
  rw [← trim_eq]
  obtain ⟨L, hL⟩ : ∃ L, L = dropL s.data.toList := ⟨_, rfl⟩
  rw [← hL]
  have HL : Hid (dropL s.data.toList = L) := hL.symm
  clear hL
  go_enter Tryd.func57, Tryd.ntmps57
  go_wp2_with fail
  go_loopw [0] (fun x wr => ∃ X : ByteArray, x = .string X ∧ X.size ≤ s.size ∧ dropL X.data.toList = L ∧ wr = w) (fun x _ => strLen x)
  case atStart => exact ⟨s, rfl, Nat.le_refl _, HL.out, rfl⟩
  case round =>
    obtain ⟨X, rfl, hXs, hX, rfl⟩ := hrel
    by_cases hc : ∃ h : 0 < X.size, X[0] = 32
    · obtain ⟨h0, h32⟩ := hc
      have hd : decide ((0 : Int) < (X.size : Int)) = true := decide_eq_true (by omega)
      have h2 : (((X[0].toNat : Nat) : Int) == 32) = true := by rw [h32]; rfl
      have hn : Hid (dropL (X.extract 1 X.size).data.toList = L) := by
        show _ = _
        rw [← hX, first_get X h0, dropL_cons, if_pos h32]
      have hz : (X.extract 1 X.size).size = X.size - 1 := by simp
      clear hX h32
      go_wp2_with fail
      go_roundw
      case rel => exact ⟨_, rfl, by omega, hn.out, by trivial⟩
      case measure => (simp only [strLen]; omega)
    · have hX2 : X.data.toList = L := by
        rw [← hX]
        by_cases h0 : 0 < X.size
        · have h32 : ¬ X[0] = 32 := fun e => hc ⟨h0, e⟩
          rw [first_get X h0, dropL_cons, if_neg h32]
        · have : X.data.toList = [] := nil_of_size X (by assumption)
          rw [this]; rfl
      have hstop : (X.size = 0 ∧ decide ((0 : Int) < (X.size : Int)) = false) ∨ ∃ h0 : 0 < X.size, decide ((0 : Int) < (X.size : Int)) = true ∧ (((X[0].toNat : Nat) : Int) == 32) = false := by
        by_cases h0 : 0 < X.size
        · refine .inr ⟨h0, decide_eq_true (by omega), ?_⟩
          rw [show (32 : Int) = ((32 : Nat) : Int) from rfl, byte_eq _ _ (by decide)]
          exact decide_eq_false fun e => hc ⟨h0, e⟩
        · exact .inl ⟨by omega, decide_eq_false (by omega)⟩
      have HX := Lib.hid hX2
      clear hc hX hX2
      rcases hstop with ⟨h0, hd⟩ | ⟨h0, hd, h2⟩
      all_goals (
        go_wp2_with fail
        go_loopw [0] (fun x wv => ∃ Y : ByteArray, x = .string Y ∧ Y.size ≤ s.size ∧ dropR Y.data.toList = dropR L ∧ wv = wr) (fun x _ => strLen x)
        case atStart => exact ⟨X, rfl, hXs, by rw [HX.out], rfl⟩
        case round =>
          obtain ⟨Y, rfl, hYs, hY, rfl⟩ := hrel
          by_cases hc : ∃ h : 0 < Y.size, Y[Y.size - 1] = 32
          · obtain ⟨k0, k32⟩ := hc
            have kd : decide ((0 : Int) < (Y.size : Int)) = true := decide_eq_true (by omega)
            have k2 : (((Y[Y.size - 1].toNat : Nat) : Int) == 32) = true := by rw [k32]; rfl
            have hn : Hid (dropR (Y.extract 0 (Y.size - 1)).data.toList = dropR L) := by
              show _ = _
              rw [← hY]
              conv => rhs; rw [last_get Y k0]
              rw [dropR_snoc, if_pos k32]
            have hz : (Y.extract 0 (Y.size - 1)).size = Y.size - 1 := by simp
            have hidx : ((Y.size : Int) - 1).toNat = Y.size - 1 := by omega
            clear hY k32
            go_wp2_with fail
            go_roundw
            case rel => exact ⟨_, rfl, by omega, hn.out, by trivial⟩
            case measure => (simp only [strLen]; omega)
          · have hY2 : Y = BA (dropR L) := by
              apply bytes_inj
              rw [BA_data, ← hY]
              by_cases k0 : 0 < Y.size
              · have k32 : ¬ Y[Y.size - 1] = 32 := fun e => hc ⟨k0, e⟩
                conv => rhs; rw [last_get Y k0]
                rw [dropR_snoc, if_neg k32, ← last_get Y k0]
              · have : Y.data.toList = [] := nil_of_size Y (by assumption)
                rw [this]; rfl
            have hstop : (Y.size = 0 ∧ decide ((0 : Int) < (Y.size : Int)) = false) ∨ ∃ h0 : 0 < Y.size, decide ((0 : Int) < (Y.size : Int)) = true ∧ (((Y[Y.size - 1].toNat : Nat) : Int) == 32) = false := by
              by_cases h0 : 0 < Y.size
              · refine .inr ⟨h0, decide_eq_true (by omega), ?_⟩
                rw [show (32 : Int) = ((32 : Nat) : Int) from rfl, byte_eq _ _ (by decide)]
                exact decide_eq_false fun e => hc ⟨h0, e⟩
              · exact .inl ⟨by omega, decide_eq_false (by omega)⟩
            have hidx : ((Y.size : Int) - 1).toNat = Y.size - 1 := by omega
            have HY := Lib.hid hY2
            clear hc hY hY2
            rcases hstop with ⟨k0, kd⟩ | ⟨k0, kd, k2⟩
            all_goals (
              go_wp2_with fail
              go_ret
              exact ⟨by rw [← HY.out]; rfl, rfl⟩))
end Go.Proofs.YtapjhnlnfliljaaDoor
