/- The law DocumentWords. (Layer 49) -/
import Derived.Test.YtapjhnlnfliljaaDoorDocRef
namespace Go.Proofs.YtapjhnlnfliljaaDoor
open Go.RowKit
open Go.Lib hiding intOf
open Dec
set_option linter.unusedVariables false

theorem joinA_len3 (sep : Bytes) : ∀ ls : List Bytes, (joinA sep ls).length ≤ lenS ls + sep.length * ls.length
  | [] => by simp [joinA]
  | [x] => by simp [joinA, lenS]; omega
  | x :: y :: r => by
    have := joinA_len3 sep (y :: r)
    rw [joinA, lenS_cons, List.length_cons, Nat.mul_succ]
    simp only [List.length_append]
    omega
theorem SL.parts {w : World} {m : Nat} {v : Value} {l : List Bytes} (h : SL w m v l) : ∃ A c, v = .slice A l.length c ∧ l.length ≤ c ∧ c ≤ 9223372036854775807 ∧ (0 < l.length → ∃ g off, A = some ⟨g, off, none⟩ ∧ ∀ (k : Nat) (hk : k < l.length), w.cell? ⟨g, off + k, none⟩ = some (.string (BA l[k]))) := by
  obtain ⟨A, c, h1, -, h2, -⟩ := h
  have hm := h2.max
  unfold maxLen at hm
  refine ⟨A, c, h1, h2.room, hm, fun hn => ?_⟩
  obtain ⟨g, off, e, hc⟩ := h2.at_ hn
  refine ⟨g, off, e, fun k hk => ?_⟩
  have := hc k (by rw [strsV_len]; exact hk)
  rw [this]
  simp [strsV]
set_option maxRecDepth 100000 in
set_option maxHeartbeats 6400000 in
theorem lawWords_any (s : ByteArray) (w : World) (hs : s.size ≤ maxLen) (hE : Env w) (hS : Sy w) :
    Calls Tryd.prog 5 #[.string s] w fun e w' => e = .returned (.bool true) ∧ Ext w w' := by
  have HA := Lib.hid (fun W (h : Ext w W) => alive_any W (hE.ext h) (hS.ext h))
  have hsl : s.data.toList.length = s.size := by simp
  unfold maxLen at hs
  by_cases hbig : 3000 < s.size
  · have hd : decide ((3000 : Int) < (s.size : Int)) = true := decide_eq_true (by omega)
    clear hbig hsl
    go_enter Tryd.func5, Tryd.ntmps5
    go_wp2_with fail
    refine (HA.out _ (Ext.refl w)).mono ?_
    rintro e w1 ⟨rfl, hx1⟩
    go_wp2_with fail
    go_ret
    exact ⟨rfl, hx1⟩
  have hd : decide ((3000 : Int) < (s.size : Int)) = false := decide_eq_false (by omega)
  have HW := Lib.hid (fun W (h : Ext w W) => words_any s W (by omega) (hE.ext h))
  have HRW := Lib.hid (fun W => rwords_any s W (by omega))
  have hag := wordsA_again s.data.toList
  have hmem := wordsA_mem s.data.toList
  have hwl := words_len s.data.toList
  rw [hsl] at hwl
  generalize wordsA s.data.toList = L at *
  have hll := len_lenS L
  have hlz : lenS L ≤ 3001 := by omega
  have hj1 := joinA_len [32] rfl L
  have hj3 := joinA_len3 [32, 32, 32] L
  have hj3z : (joinA [32, 32, 32] L).length ≤ 20000 := by
    have : ([32, 32, 32] : Bytes).length = 3 := rfl
    rw [this] at hj3
    omega
  have HJ1 := Lib.hid (fun W m (v : Value) (h : SL W m v L) => joinD_any ⟨#[32]⟩ m v L W h (by show (joinA [32] _).length ≤ _; omega) (by omega))
  have HJ3 := Lib.hid (fun W m (v : Value) (h : SL W m v L) => joinD_any ⟨#[32, 32, 32]⟩ m v L W h (by show (joinA [32, 32, 32] _).length ≤ _; omega) (by omega))
  have HWA := Lib.hid (fun W (h : Ext w W) => words_any (⟨#[32, 32]⟩ ++ BA (joinA [32, 32, 32] L) ++ ⟨#[32]⟩) W (by
    rw [ByteArray.size_append, ByteArray.size_append, BA_size]
    show 2 + _ + 1 ≤ _
    omega) (hE.ext h))
  rw [show (⟨#[32, 32]⟩ ++ BA (joinA [32, 32, 32] L) ++ ⟨#[32]⟩ : ByteArray).data.toList = [32, 32] ++ joinA [32, 32, 32] L ++ [32] by rw [ByteArray.data_append, Array.toList_append, ByteArray.data_append, Array.toList_append, BA_data], hag] at HWA
  rw [show (⟨#[32]⟩ : ByteArray).data.toList = [32] from rfl] at HJ1
  rw [show (⟨#[32, 32, 32]⟩ : ByteArray).data.toList = [32, 32, 32] from rfl] at HJ3
  have hjz3 : (BA (joinA [32, 32, 32] L)).size ≤ 20000 := by rw [BA_size]; exact hj3z
  generalize BA (joinA [32, 32, 32] L) = J3 at *
  generalize BA (joinA [32] L) = J1 at *
  obtain ⟨N, hN⟩ : ∃ N, N = L.length := ⟨_, rfl⟩
  have HN := Lib.hid hN
  have HM := Lib.hid hmem
  rw [← hN] at HW HRW HWA hll
  have hNz : N ≤ 3001 := by omega
  clear hag hmem hwl hlz hj1 hj3 hj3z hN hll hsl hbig hE hS
  go_enter Tryd.func5, Tryd.ntmps5
  go_wp2_with fail
  refine (HA.out _ (Ext.refl w)).mono ?_
  rintro e w1 ⟨rfl, hx1⟩
  go_wp2_with fail
  refine (HW.out _ hx1).mono ?_
  rintro e w2 ⟨v, rfl, ho, hx2⟩
  have hx12 := hx1.trans hx2
  have hsl := (SL.own ho).1
  obtain ⟨A, c, rfl, hr, hm, hcell⟩ := hsl.parts
  have hcell2 : 0 < N → _ := fun h => hcell (by rw [← HN.out]; exact h)
  rw [← HN.out] at hr hsl ⊢
  have HSL := Lib.hid hsl
  have HC := Lib.hid hcell2
  clear ho hsl hcell hcell2 hx1 hx2
  go_wp2_with fail
  refine (HRW.out _).mono ?_
  rintro e w3 ⟨v2, rfl, ho, hx3⟩
  have hx13 := hx12.trans hx3
  have hsl := (SL.own ho).1
  obtain ⟨A2, c2, rfl, hr2, hm2, -⟩ := hsl.parts
  rw [← HN.out] at hr2 hsl ⊢
  have HSL2 := Lib.hid hsl
  have HSL3 := Lib.hid (HSL.out.ext hx3)
  clear ho hsl hx12
  go_wp2_with fail
  refine (HJ1.out _ _ _ (HSL3.out)).mono ?_
  rintro e w4 ⟨rfl, hx4⟩
  have hx14 := hx13.trans hx4
  have HSL4 := Lib.hid (HSL2.out.ext hx4)
  go_wp2_with fail
  refine (HJ1.out _ _ _ (HSL4.out)).mono ?_
  rintro e w5 ⟨rfl, hx5⟩
  have hx15 := hx14.trans hx5
  have HSL5 := Lib.hid ((HSL3.out.ext hx4).ext hx5)
  have hx25 := (hx3.trans hx4).trans hx5
  clear hx13 hx14 hx3 hx4 hx5 HSL2 HSL3 HSL4 HSL
  go_wp2_with fail
  go_loopw [6, 31] (fun _ i wr => ∃ k : Nat, k ≤ N ∧ i = .int .i64 k ∧ wr = w5) (fun _ i _ => N - (intOf i).toNat)
  case atStart => exact ⟨0, Nat.zero_le _, rfl, rfl⟩
  case round =>
    obtain ⟨k, hk, rfl, rfl⟩ := hrel
    by_cases hkn : k < N
    · have hkl : k < L.length := by rw [← HN.out]; exact hkn
      obtain ⟨g, off, rfl, hc⟩ := HC.out (by omega)
      have c0 := hx25.cell (hc k hkl)
      obtain ⟨m1, m2⟩ := HM.out L[k] (List.getElem_mem hkl)
      have g1 : ((BA L[k]).toList == []) = false := by
        rw [ByteArray.toList_eq, BA_data]
        simpa using m1
      have g2 : (BA L[k]).toList.isEmpty = false := by
        rw [ByteArray.toList_eq, BA_data]
        cases hq : L[k] with
        | nil => exact absurd hq m1
        | cons a b => rfl
      have HCN := Lib.hid (fun W => containsD_any L[k] W)
      rw [show L[k].contains 32 = false by simpa using m2] at HCN
      clear m1 m2 hc
      generalize BA L[k] = X at *
      clear hkl
      go_wp2_with fail
      refine (HCN.out _).mono ?_
      rintro e w6 ⟨rfl, rfl⟩
      go_wp2_with fail
      go_roundw
      case rel => exact ⟨k + 1, by omega, by go_num, by trivial⟩
      case measure => simp [intOf]; omega
    · obtain rfl : k = N := by omega
      have hj := fun W (h : Ext wr W) => HJ3.out W _ _ (HSL5.out.ext h)
      have HJ3' := Lib.hid hj
      clear hj
      go_wp2_with fail
      refine (HJ3'.out _ (Ext.refl _)).mono ?_
      rintro e w6 ⟨rfl, hx6⟩
      have hx16 := hx15.trans hx6
      go_wp2_with fail
      refine (HWA.out _ hx16).mono ?_
      rintro e w7 ⟨v7, rfl, ho, hx7⟩
      have hsl := (SL.own ho).1
      obtain ⟨A7, c7, rfl, hr7, hm7, -⟩ := hsl.parts
      rw [← HN.out] at hr7 hsl ⊢
      have HSL7 := Lib.hid hsl
      have HSL8 := Lib.hid ((HSL5.out.ext hx6).ext hx7)
      have hx17 := hx16.trans hx7
      clear ho hsl hx16 hx6 hx7
      go_wp2_with fail
      refine (HJ1.out _ _ _ (HSL7.out)).mono ?_
      rintro e w8 ⟨rfl, hx8⟩
      have HSL9 := Lib.hid (HSL8.out.ext hx8)
      go_wp2_with fail
      refine (HJ1.out _ _ _ (HSL9.out)).mono ?_
      rintro e w9 ⟨rfl, hx9⟩
      go_wp2_with fail
      go_ret
      exact ⟨rfl, (hx17.trans hx8).trans hx9⟩
end Go.Proofs.YtapjhnlnfliljaaDoor
