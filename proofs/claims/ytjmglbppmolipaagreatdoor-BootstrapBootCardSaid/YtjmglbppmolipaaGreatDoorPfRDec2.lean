/- Contract of the reference's ToBytes. (Layer 26) -/
import Derived.Test.YtjmglbppmolipaaGreatDoorPfRDec
namespace Go.Proofs.YtjmglbppmolipaaGreatDoor
open Go.RowKit
open Go.Lib hiding intOf
set_option linter.unusedVariables false

theorem acc_pow (l : List UInt8) (h : l.length = 8) : ∀ k, k ≤ 8 → (l.take k).foldl accB 0 < 2 ^ k
  | 0, _ => by simp
  | k + 1, hk => by
    have ih := acc_pow l h k (by omega)
    rw [acc_snoc l k (by omega), Nat.pow_succ]
    generalize (l.take k).foldl accB 0 = x at *
    unfold accB
    have : x * 2 % 256 ≤ x * 2 := Nat.mod_le _ _
    split <;> omega
theorem acc_dbl (l : List UInt8) (h : l.length = 8) (k : Nat) (hk : k < 8) : (l.take (k + 1)).foldl accB 0 = (l.take k).foldl accB 0 * 2 + if l[k]'(by omega) = 49 then 1 else 0 := by
  have ih := acc_pow l h k (by omega)
  have hp : 2 ^ k ≤ 2 ^ 7 := Nat.pow_le_pow_right (by decide) (by omega)
  have h7 : 2 ^ 7 = 128 := by decide
  rw [acc_snoc l k (by omega)]
  generalize (l.take k).foldl accB 0 = x at *
  unfold accB
  rw [Nat.mod_eq_of_lt (by omega)]

set_option maxRecDepth 100000 in
set_option maxHeartbeats 3200000 in
theorem rtoBytes_any (s : ByteArray) (w : World) (hs : s.size ≤ 1000000) (h1 : cellsOk s.data.toList = true) (h63 : s.data.toList.contains 63 = false) (n : Nat) (h8 : s.size = 8 * n) :
    Calls Tryz.prog 113 #[.string s] w fun e w' => (∃ v, e = .returned (.tuple #[.string (BA (bytesC s.data.toList)), v, .int .i64 0])) ∧ Ext w w' := by
  have hck := fun W => rccheck_any s W (by unfold maxLen; omega)
  unfold chkC at hck
  rw [if_pos h1] at hck
  have HCK := Lib.hid hck
  have H63 : Hid (∀ i (h : i < s.size), ¬ ((s[i].toNat : Int) = 63)) := fun i h e => by
    have : s[i] = 63 := UInt8.toNat_inj.1 (by have : (63 : UInt8).toNat = 63 := rfl; omega)
    have hm : (63 : UInt8) ∈ s.data.toList := by rw [← this]; exact List.getElem_mem (show i < s.data.toList.length from h)
    rw [← List.contains_iff_mem, h63] at hm
    cases hm
  clear hck h1 h63
  have hq1 : (s.size : Int) % 8 = 0 := by omega
  have HP8 : Hid (∀ i, i < n → ((s.data.toList.drop (i * 8)).take 8).length = 8) := fun i hi => by rw [List.length_take, List.length_drop]; have : s.data.toList.length = s.size := rfl; omega
  have HIX : Hid (∀ i k (hi : i < n) (hk : k < 8) (hb : i * 8 + k < s.size), ((s.data.toList.drop (i * 8)).take 8)[k]'(by rw [HP8.out i hi]; exact hk) = s[i * 8 + k]'hb) := fun i k hi hk hb => by
    rw [List.getElem_take, List.getElem_drop]; rfl
  have HST : Hid (∀ i, i < n → Lib.byteCells ((bytesC s.data.toList).take (i + 1)) = Lib.byteCells ((bytesC s.data.toList).take i) ++ [.int .u8 ((((s.data.toList.drop (i * 8)).take 8).foldl accB 0 : Nat) : Int)]) := fun i hi => by
    rw [bytesC_take _ i (by show i < s.size / 8; omega)]
    unfold Lib.byteCells
    rw [List.map_append, List.map_cons, List.map_nil]
    unfold byteC
    rw [UInt8.toNat_ofNat_of_lt' (accB_lt _ _ (by decide))]
  have HBL : Hid ((bytesC s.data.toList).length = n) := by show _ = _; rw [bytesC_len]; show s.size / 8 = n; omega
  generalize bytesC s.data.toList = R at *
  have h8a : s.size ≤ 8 * n := Nat.le_of_eq h8
  have h8b : 8 * n ≤ s.size := Nat.le_of_eq h8.symm
  clear h8
  obtain ⟨i0, hi0, hz0, hz1, hz2⟩ := info_parts byteInfo
  go_enter Tryz.func113, Tryz.ntmps113
  go_wp2_with fail
  refine (HCK.out _).mono ?_
  rintro e w1 ⟨rfl, rfl⟩
  go_wp2_with fail
  clear hq1
  go_loopw [5, 6, 7] (fun ov bv iv wr => ∃ i A : Nat, iv = .int .i64 A ∧ A = i * 8 ∧ i ≤ n ∧ bv = .slice (some ⟨w.heap.size + 1, 0, none⟩) 0 0 ∧ wr.ownsRow w.heap.size 5 1 ov i (Lib.byteCells (R.take i)) ∧ Ext w wr) (fun _ _ iv _ => s.size - (intOf iv).toNat)
  case atStart => exact ⟨0, 0, rfl, rfl, Nat.zero_le _, rfl, own_ext (own_empty w _ _ _ (Nat.le_refl _)) ((Ext.refl _).alloc _), ((Ext.refl _).alloc _).alloc _⟩
  case round =>
    obtain ⟨i, A, rfl, hA, hi, rfl, hown, hx⟩ := hrel
    have HO := Lib.hid hown
    clear hown
    by_cases hlt : i < n
    · obtain ⟨P, hP⟩ : ∃ P, P = (s.data.toList.drop (i * 8)).take 8 := ⟨_, rfl⟩
      have hp8 : P.length = 8 := by rw [hP]; exact HP8.out i hlt
      have hAs : A + 8 ≤ s.size := by omega
      have hpow := acc_pow P hp8
      have hdbl := acc_dbl P hp8
      have hst := HST.out i hlt
      rw [← hP] at hst
      have hix : ∀ k (hk : k < 8), P[k]'(by omega) = s[A + k]'(by omega) := fun k hk => by
        subst hP
        subst hA
        exact HIX.out i k hlt hk _
      clear hP
      have HDB : Hid (∀ k (hk : k < 8), (P.take (k + 1)).foldl accB 0 = (P.take k).foldl accB 0 * 2 + if s[A + k]'(Nat.lt_of_lt_of_le (Nat.add_lt_add_left hk A) hAs) = 49 then 1 else 0) := fun k hk => by rw [hdbl k hk, hix k hk]
      have HPW := Lib.hid hpow
      have HS2 := Lib.hid hst
      have HFULL : Hid (P.take 8 = P) := List.take_of_length_le (by omega)
      clear hpow hdbl hst hix
      have HA := Lib.hid hA
      clear hA
      have hAlt : (A : Int) < s.size := by omega
      go_wp2_with fail
      go_loopw [8, 9, 10] (fun nv ov2 kv wr' => ∃ k acc B : Nat, kv = .int .i64 B ∧ Hid (B = A + k) ∧ k ≤ 8 ∧ nv = .int .i64 acc ∧ ov2 = .bool false ∧ Hid (acc = (P.take k).foldl accB 0) ∧ wr' = wr) (fun _ _ kv _ => A + 8 - (intOf kv).toNat)
      case atStart => exact ⟨0, 0, A, rfl, rfl, Nat.zero_le _, rfl, rfl, rfl, rfl⟩
      case round =>
        obtain ⟨k, acc, B, rfl, HB, hk, rfl, rfl, HACC, rfl⟩ := hrel
        have hB := HB.out
        have hacc : acc < 256 := by
          rw [HACC.out]
          exact Nat.lt_of_lt_of_le (HPW.out k hk) (Nat.pow_le_pow_right (by decide) hk : 2 ^ k ≤ 2 ^ 8)
        by_cases hk8 : k < 8
        · have hBs : B < s.size := by omega
          have hd : (P.take (k + 1)).foldl accB 0 = acc * 2 + if s[B]'hBs = 49 then 1 else 0 := by
            have h := HDB.out k hk8
            rw [← HACC.out] at h
            subst hB
            exact h
          have hnq : ¬ (((s[B]'hBs).toNat : Int) = 63) := H63.out B hBs
          have HB2 : Hid (B + 1 = A + (k + 1)) := by show _ = _; omega
          have hBA : B < A + 8 := by omega
          have HBk := Lib.hid hB
          clear hB HB
          by_cases hc : s[B] = 49
          · rw [if_pos hc] at hd
            have hc' : ((s[B].toNat : Int) == 49) = true := by rw [hc]; rfl
            have hq' : ((s[B].toNat : Int) == 63) = false := by rw [hc]; rfl
            have HD := Lib.hid hd
            clear hd hc hnq
            go_wp2_with fail
            go_roundw
            case rel => exact ⟨k + 1, acc * 2 + 1, B + 1, by go_num, HB2, by omega, by go_num, rfl, HD.out.symm, trivial⟩
            case measure => simp [intOf]; omega
          · rw [if_neg hc, Nat.add_zero] at hd
            have hc' : ¬ (s[B].toNat : Int) = 49 := fun h => hc (UInt8.toNat_inj.1 (by have : (49 : UInt8).toNat = 49 := rfl; omega))
            have hq' : ((s[B].toNat : Int) == 63) = false := by simpa using hnq
            have HD := Lib.hid hd
            clear hd hc
            go_wp2_with fail
            go_roundw
            case rel => exact ⟨k + 1, acc * 2, B + 1, by go_num, HB2, by omega, by go_num, rfl, HD.out.symm, trivial⟩
            case measure => simp [intOf]; omega
        · obtain rfl : k = 8 := by omega
          have hfin : Hid (Lib.byteCells (R.take (i + 1)) = Lib.byteCells (R.take i) ++ [.int .u8 (acc : Int)]) := by
            show _ = _
            rw [HS2.out, HACC.out, HFULL.out]
          have hi := hi0
          go_wp2_with (at_builtin; refine wpList_append_own _ rfl (.tmp 54) (.tmp 57) _ rfl w.heap.size 5 i0 _ 1 1 Tryz.underlying46 hi hz0 hz1 hz2 rfl (by omega) _ _ _ rfl (HO.out.alloc _) ⟨wr.heap.size, 0, none⟩ 1 1 [.int .u8 (acc : Int)] rfl rfl ?c1 ?c2 ?c3 ?c4 ?c5 ?_)
          case c1 =>
            intro j u hu
            match j, hu with
            | 0, hu => simp at hu; subst hu; go_cell
          case c2 =>
            intro u hu
            simp at hu
            subst hu; rfl
          case c3 => unfold maxLen; omega
          case c4 => omega
          case c5 => (have hc5 := hx.size; try simp at hc5); simp; omega
          intro v' w2 hown2 hgr _
          have hx3 := (hx.alloc (.cells #[.int .u8 (acc : Int)] 5)).grown hgr (fun k hk => (HO.out.lt k hk).1)
          have HO2 := Lib.hid hown2
          have HG := Lib.hid hgr
          clear hown2 hgr
          go_wp2_with fail
          go_roundw
          case rel => exact ⟨i + 1, A + 8, by go_num, by rw [HA.out]; omega, by omega, rfl, by rw [hfin.out]; exact HO2.out, hx3⟩
          case measure => simp [intOf]; omega
    · obtain rfl : i = n := by omega
      have hAs : A = s.size := by omega
      have hfull : R.take i = R := List.take_of_length_le (by rw [HBL.out]; exact Nat.le_refl _)
      rw [hfull] at HO
      have hcv := conv_own HO.out HBL.out.symm
      clear hfull HO
      go_wp2_with fail
      refine bodyPost_ret (v := .tuple #[.string (BA R), .slice (some ⟨w.heap.size + 1, 0, none⟩) 0 0, .int .i64 0]) (by simp [results, Tryz.results113, go_sem, BA]) rfl ⟨⟨_, rfl⟩, hx⟩
end Go.Proofs.YtjmglbppmolipaaGreatDoor
