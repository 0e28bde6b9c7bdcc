/- The law PlainframeText returns true. (Layer 26) -/
import Derived.Test.YtboafongjbdmoaaDoorPfAwake
namespace Go.Proofs.YtboafongjbdmoaaDoor
open Go.RowKit
open Go.Lib hiding intOf
set_option linter.unusedVariables false

theorem extract_snoc (F : ByteArray) (a b : Nat) (h : a ≤ b) : F.extract 0 a ++ F.extract a b = F.extract 0 b := by
  apply bytes_inj
  rw [ext_BA F 0 a, ext_BA F a b, ext_BA F 0 b, ← BA_append, BA_data, BA_data, List.drop_zero, Nat.sub_zero, Nat.sub_zero]
  conv => rhs; rw [show b = a + (b - a) by omega, List.take_add]
theorem trimB_rep (c : UInt8) (n : Nat) : Lib.trimB (List.replicate n c) c = [] := by
  have h1 : Lib.trimRightB (List.replicate n c) c = [] := by
    unfold Lib.trimRightB
    simp
  unfold Lib.trimB
  rw [h1]
  simp [Lib.trimLeftB]
/-- the filled text, with the text ahead cut off -/
theorem full_prefix (s : ByteArray) : Lib.hasPrefix (fullB s).data.toList s.data.toList = true ∧ Lib.trimPrefix (fullB s).data.toList s.data.toList = List.replicate (totalN s.size * 64 - s.size) 32 := by
  have e : (fullB s).data.toList = s.data.toList ++ List.replicate (totalN s.size * 64 - s.size) 32 := by unfold fullB; rw [app_data]
  have h : Lib.hasPrefix (fullB s).data.toList s.data.toList = true := by rw [e]; exact List.isPrefixOf_iff_prefix.2 (List.prefix_append _ _)
  refine ⟨h, ?_⟩
  unfold Lib.trimPrefix
  rw [h, if_pos rfl, e]
  simp
theorem pieces_get? (s : ByteArray) (arch i : Nat) (h : i < totalN s.size) : (piecesP s arch)[i]? = some (pieceP s arch i) := by
  unfold piecesP
  rw [List.getElem?_map, List.getElem?_range h]; rfl
theorem pieces_get (s : ByteArray) (arch i : Nat) (h : i < (piecesP s arch).length) : (piecesP s arch)[i] = ⟨arch, (i : Int), (totalN s.size : Int), (fullB s).extract (i * 64) ((i + 1) * 64)⟩ := by
  have h' := pieces_get? s arch i (by rw [← pieces_len s arch]; exact h)
  rw [List.getElem?_eq_getElem h] at h'
  injection h'

set_option maxRecDepth 100000 in
set_option maxHeartbeats 3200000 in
theorem lawText_any (s : ByteArray) (arch : Nat) (w : World) (hs : s.size ≤ maxLen) (ha : arch < 4294967296) (hE : Env w) :
    Calls Tryd.prog 6 #[.string s, .int .u32 arch] w fun e w' => e = .returned (.bool true) ∧ Ext w w' := by
  have HW := Lib.hid (fun W (h : Env W) => awake_any W h)
  have hs' := hs
  unfold maxLen at hs
  by_cases h6 : (600 : Int) < s.size
  · go_enter Tryd.func6, Tryd.ntmps6
    go_wp2_with fail
    refine (HW.out _ hE).mono ?_
    rintro e w1 ⟨rfl, hx⟩
    go_wp2_with fail
    go_ret
    exact ⟨rfl, hx⟩
  have hA := fun W => (split_any' s arch W hs').mono fun e w' h => PcPost.open h
  unfold splitA at hA
  rw [if_neg (by omega)] at hA
  by_cases hp : prB s.data.toList = false
  · rw [if_pos hp] at hA
    have HA := Lib.hid hA
    clear hA hp
    go_enter Tryd.func6, Tryd.ntmps6
    go_wp2_with fail
    refine (HA.out _).mono ?_
    rintro e w1 ⟨A, cA, rfl, hlA, hx1⟩
    go_wp2_with fail
    refine (HW.out _ (hE.ext hx1)).mono ?_
    rintro e w2 ⟨rfl, hx2⟩
    go_wp2_with fail
    go_ret
    exact ⟨rfl, hx1.trans hx2⟩
  rw [if_neg hp] at hA
  obtain ⟨hfp, htp⟩ := full_prefix s
  obtain ⟨T, hT⟩ : ∃ T, T = totalN s.size := ⟨_, rfl⟩
  have hT10 : T ≤ 10 := by rw [hT]; unfold totalN; omega
  have hpd : totalN s.size * 64 - s.size < 64 := by unfold totalN; omega
  have hget := pieces_get s arch
  have hlen := pieces_len s arch
  have hF := full_size s
  rw [← hT] at hget hlen hF htp hpd
  rw [hlen] at hA
  have hCP := fun W => Tryd.strings_CutPrefix (fullB s) s W
  rw [hfp, htp] at hCP
  obtain ⟨pd, hpde⟩ : ∃ pd, pd = T * 64 - s.size := ⟨_, rfl⟩
  rw [← hpde] at hCP hpd
  have hTR := fun W => Tryd.strings_Trim_one (BA (List.replicate pd 32)) 32 (by decide) W (by rw [BA_size, List.length_replicate]; omega)
  rw [BA_data, trimB_rep] at hTR
  have hRz : (BA (List.replicate pd 32)).size = pd := by rw [BA_size, List.length_replicate]
  have hfull : (fullB s).extract 0 (T * 64) = fullB s := by rw [← hF]; exact ByteArray.extract_zero_size
  generalize piecesP s arch = L at *
  generalize fullB s = F at *
  have HCP : Hid (∀ W, Calls Tryd.prog 16 #[.string F, .string s] W fun e w' => e = .returned (.tuple #[.string (BA (List.replicate pd 32)), .bool true]) ∧ w' = W) := hCP
  generalize BA (List.replicate pd 32) = R at *
  have HA := Lib.hid hA
  have HTR := Lib.hid hTR
  have HG := Lib.hid hget
  have HLen := Lib.hid hlen
  have HFull := Lib.hid hfull
  clear hA hCP hTR hget hlen hfull hfp htp hp hT hpde
  go_enter Tryd.func6, Tryd.ntmps6
  go_wp2_with fail
  refine (HA.out _).mono ?_
  rintro e w1 ⟨A, cA, rfl, hlA, hx1⟩
  have hroom := hlA.room
  have hmax := hlA.max
  unfold maxLen at hmax
  have HLA := Lib.hid hlA
  clear hlA
  go_wp2_with fail
  go_loopw [7, 32] (fun av iv wr => ∃ i : Nat, iv = .int .i64 i ∧ i ≤ T ∧ av = .string (F.extract 0 (i * 64)) ∧ Ext w1 wr) (fun _ iv _ => T - (intOf iv).toNat)
  case atStart => exact ⟨0, rfl, Nat.zero_le _, by rw [Nat.zero_mul]; exact congrArg _ (bytes_inj (by simp)), Ext.refl _⟩
  case round =>
    obtain ⟨i, rfl, hi, rfl, hx⟩ := hrel
    by_cases hlt : i < T
    · obtain ⟨b, rfl, hc⟩ := HLA.out.at_ (by omega)
      have hil : i < L.length := by rw [HLen.out]; exact hlt
      obtain ⟨e1, e2, e3, e4⟩ := hc i hil
      rw [HG.out i hil] at e1 e2 e3 e4
      simp only at e1 e2 e3 e4
      have e1 := hx.cell e1
      have e2 := hx.cell e2
      have e3 := hx.cell e3
      have e4 := hx.cell e4
      obtain ⟨A0, hA0⟩ : ∃ A0, A0 = i * 64 := ⟨_, rfl⟩
      obtain ⟨A1, hA1⟩ : ∃ A1, A1 = (i + 1) * 64 := ⟨_, rfl⟩
      have hsn := Lib.hid (extract_snoc F A0 A1 (by omega))
      have hz1 : (F.extract A0 A1).size = 64 := by rw [ByteArray.size_extract]; omega
      have hz0 : (F.extract 0 A0).size ≤ 640 := by rw [ByteArray.size_extract]; omega
      have HA1 := Lib.hid hA1
      rw [← hA0, ← hA1] at e4
      rw [← hA0]
      clear hA0 hA1 hc
      generalize F.extract A0 A1 = Pt at *
      generalize F.extract 0 A0 = Al at *
      go_wp2_with fail
      go_roundw
      case rel => exact ⟨i + 1, by go_num, by omega, by rw [← HA1.out, ← hsn.out], by (go_grown; exact hx.size)⟩
      case measure => simp [intOf]; omega
    · obtain rfl : i = T := by omega
      rw [HFull.out]
      have hx2 := hx1.trans hx
      go_wp2_with fail
      refine (HCP.out _).mono ?_
      rintro e w2 ⟨rfl, rfl⟩
      go_wp2_with fail
      refine (HTR.out _).mono ?_
      rintro e w3 ⟨rfl, hw3⟩
      have hx3 : Ext w w3 := hw3.elim (fun h => h ▸ hx2) (fun h => h ▸ hx2.drew)
      clear hw3
      go_wp2_with fail
      refine (HW.out _ (hE.ext hx3)).mono ?_
      rintro e w4 ⟨rfl, hx4⟩
      go_wp2_with fail
      go_ret
      exact ⟨rfl, hx3.trans hx4⟩
end Go.Proofs.YtboafongjbdmoaaDoor
