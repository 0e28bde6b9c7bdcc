/- The law AssemblerJump: machine.Check, machine.Literal, the walk. -/
import Derived.Test.YtimegcnpembhkaaDoorJumpM
import Derived.Test.YtimegcnpembhkaaDoorPfNum
import Derived.Test.YtimegcnpembhkaaDoorAsmAwake
import Derived.WalkSpells
namespace Go.Proofs.YtimegcnpembhkaaDoor
open Go.RowKit
open Go.Lib hiding intOf
open Dec
set_option linter.unusedVariables false
set_option linter.unusedSimpArgs false

def okJ (c : UInt8) : Prop := c = 10 ∨ c = 32 ∨ isCd c = true
def setJ : Bytes := [43, 45, 42, 47, 37, 94, 60, 64, 33, 63, 58, 59, 44, 46, 36, 48, 49, 50, 51, 52, 53, 54, 55, 56, 57, 32, 10]
theorem set_ok (c : UInt8) (h : setJ.contains c = true) : okJ c := by
  have := u8_all (p := fun c => setJ.contains c = true → (c == 10 || c == 32 || isCd c) = true) (by decide +kernel) c h
  unfold okJ
  simpa [or_assoc] using this
set_option maxHeartbeats 1600000 in
set_option maxRecDepth 100000 in
theorem mcheck_any (s : ByteArray) (w : World) (hs : s.size ≤ 100000) (hE : Env w) :
    Calls Tryd.prog 24 #[.string s] w fun e w' => ∃ k z : Int, e = .returned (.tuple #[.int .i64 k, .int .i64 z]) ∧ w = w' ∧ (z = 0 → ∀ c ∈ s.data.toList, okJ c) := by
  obtain ⟨m, hm⟩ := hE.maxLen
  have hsl : s.data.toList.length = s.size := by simp
  have HC := Lib.hid (fun sub => Tryd.strings_Contains (BA setJ) sub m w (by decide) hm)
  rw [show (BA setJ) = ⟨#[43, 45, 42, 47, 37, 94, 60, 64, 33, 63, 58, 59, 44, 46, 36, 48, 49, 50, 51, 52, 53, 54, 55, 56, 57, 32, 10]⟩ from rfl] at HC
  have HSL := Lib.hid hsl
  clear hE hm hsl
  go_enter Tryd.func24, Tryd.ntmps24
  go_wp2_with fail
  go_loopw [4, 7] (fun _ i wr => wr = w ∧ ∃ k : Nat, k ≤ s.size ∧ i = .int .i64 k ∧ ∀ c ∈ s.data.toList.take k, okJ c) (fun _ i _ => s.size - (intOf i).toNat)
  case atStart => exact ⟨rfl, 0, Nat.zero_le _, rfl, fun c hc => by cases hc⟩
  case round =>
    obtain ⟨rfl, k, hk, rfl, hall⟩ := hrel
    by_cases hks : k < s.size
    · have hkl : k < s.data.toList.length := by rw [HSL.out]; exact hks
      have hct := HC.out (s.extract k (k + 1))
      rw [ext_oneB s k hks, contains_mem] at hct
      have hnx : s[k] ∈ setJ → ∀ c ∈ s.data.toList.take (k + 1), okJ c := fun h c hc => by
        rw [List.take_succ_eq_append_getElem hkl] at hc
        rcases List.mem_append.1 hc with hc | hc
        · exact hall c hc
        · rw [List.mem_singleton.1 hc]
          exact set_ok _ (List.contains_iff_mem.2 h)
      have hct : Calls Tryd.prog 22 #[.string ⟨#[43, 45, 42, 47, 37, 94, 60, 64, 33, 63, 58, 59, 44, 46, 36, 48, 49, 50, 51, 52, 53, 54, 55, 56, 57, 32, 10]⟩, .string (s.extract k (k + 1))] wr fun e w' => e = .returned (.bool (decide (s[k] ∈ setJ))) ∧ w' = wr := hct
      have HN := Lib.hid hnx
      clear hnx hall
      by_cases hin : s[k] ∈ setJ
      · rw [decide_eq_true hin] at hct
        have HCT := Lib.hid hct
        have HIN := Lib.hid hin
        clear hct hin
        go_wp2_with fail
        refine HCT.out.mono ?_
        rintro e w1 ⟨rfl, rfl⟩
        go_wp2_with fail
        go_roundw
        case rel => exact ⟨trivial, k + 1, by omega, by go_num, HN.out HIN.out⟩
        case measure => (simp [intOf] <;> omega)
      · rw [decide_eq_false hin] at hct
        have HCT := Lib.hid hct
        clear hct hin
        go_wp2_with fail
        refine HCT.out.mono ?_
        rintro e w1 ⟨rfl, rfl⟩
        go_wp2_with fail
        go_ret2
        exact ⟨_, 3, rfl, rfl, fun h => absurd h (by decide)⟩
    · obtain rfl : k = s.size := by omega
      rw [← HSL.out, List.take_length] at hall
      have HA := Lib.hid hall
      clear hall
      go_wp2_with fail
      go_ret2
      exact ⟨0, 0, rfl, rfl, fun _ => HA.out⟩
theorem literal_any (u : Nat) (hu : u < 4294967296) (w : World) (hE : Env w) :
    Calls Tryd.prog 25 #[.int .u32 u] w fun e w' => e = .returned (.string (BA (Lib.decDigits u))) ∧ Ext w w' := by
  have H := Lib.hid (fmtUint_any u (by omega) w hE)
  go_enter Tryd.func25, Tryd.ntmps25
  go_wp2_with fail
  refine H.out.mono ?_
  rintro e w1 ⟨rfl, hx⟩
  go_wp2_with fail
  go_ret
  exact ⟨rfl, hx⟩
/-- what the law adds for a byte -/
def wJ (b : UInt8) : Bytes := decDigits b.toNat ++ [32, 46, 32]
theorem tail_flat : ∀ l : Bytes, tailJ l = l.flatMap wJ ++ [36]
  | [] => rfl
  | b :: r => by
    rw [tailJ, tail_flat r, List.flatMap_cons]
    unfold wJ
    simp
def preJ (sk : Bytes) : Bytes := [48, 32, 38, 115, 116, 97, 114, 116, 32, 63, 32] ++ sk ++ [32, 115, 116, 97, 114, 116, 58, 32]
theorem src_flat (l sk : Bytes) : srcJ l sk = preJ sk ++ l.flatMap wJ ++ [36] := by
  unfold srcJ preJ startW
  rw [tail_flat]
  simp
set_option maxHeartbeats 6400000 in
set_option maxRecDepth 100000 in
theorem jump_any (l : Bytes) (sk : ByteArray) (o : Int) (A : Option Addr) (n cap : Nat) (w : World) (hl : Lst w A n cap (Lib.byteCells l)) (hnil : A = none → cap = 0) (hsk : sk.size ≤ maxLen) (hE : Env w) :
    Calls Tryd.prog 10 #[.slice A n cap, .string sk, .int .i64 o] w fun e w' => e = .returned (.bool true) ∧ Ext w w' := by
  have hlen : n = l.length := by have := hl.len; unfold Lib.byteCells at this; rw [List.length_map] at this; exact this
  have hrm := hl.room
  have hmx := hl.max
  unfold maxLen at hmx hsk
  have HAW := Lib.hid (fun W (hW : Ext w W) => awake_any W (hE.ext hW))
  have hskl : sk.data.toList.length = sk.size := by simp
  have hskip : ∀ (b1 : decide ((60 : Int) < (n : Int)) = true ∨ (decide ((60 : Int) < (n : Int)) = false ∧ (decide ((100 : Int) < (sk.size : Int)) = true ∨ (decide ((100 : Int) < (sk.size : Int)) = false ∧ (decide (o < 0) = true ∨ (decide (o < 0) = false ∧ decide ((260144 : Int) < o) = true)))))), Calls Tryd.prog 10 #[.slice A n cap, .string sk, .int .i64 o] w fun e w' => e = .returned (.bool true) ∧ Ext w w' := by
    intro b1
    clear hl hE hlen hskl hnil
    rcases b1 with b1 | ⟨b1, b2 | ⟨b2, b3 | ⟨b3, b4⟩⟩⟩
    all_goals (
      go_enter Tryd.func10, Tryd.ntmps10
      go_wp2_with fail
      refine (HAW.out _ (Ext.refl w)).mono ?_
      rintro e w1 ⟨rfl, hx1⟩
      go_wp2_with fail
      go_ret
      exact ⟨rfl, hx1⟩)
  by_cases t1 : 60 < n
  · exact hskip (.inl (decide_eq_true (by omega)))
  have b1 : decide ((60 : Int) < (n : Int)) = false := decide_eq_false (by omega)
  by_cases t2 : 100 < sk.size
  · exact hskip (.inr ⟨b1, .inl (decide_eq_true (by omega))⟩)
  have b2 : decide ((100 : Int) < (sk.size : Int)) = false := decide_eq_false (by omega)
  by_cases t3 : o < 0
  · exact hskip (.inr ⟨b1, .inr ⟨b2, .inl (decide_eq_true t3)⟩⟩)
  have b3 : decide (o < 0) = false := decide_eq_false t3
  by_cases t4 : 260144 < o
  · exact hskip (.inr ⟨b1, .inr ⟨b2, .inr ⟨b3, decide_eq_true t4⟩⟩⟩)
  have b4 : decide ((260144 : Int) < o) = false := decide_eq_false t4
  clear hskip
  obtain ⟨oo, rfl⟩ : ∃ oo : Nat, o = (oo : Int) := ⟨o.toNat, by omega⟩
  have hn60 : n ≤ 60 := by omega
  have hs100 : sk.size ≤ 100 := by omega
  have ho : oo ≤ 260144 := by omega
  clear t1 t2 t3 t4
  have hconv : ∀ W, Ext w W → (convert 43 9 (.slice A n cap)).run Tryd.prog W = .ok (.string (BA l)) W := by
    intro W hW
    have hlW := hl.ext hW
    subst hlen
    cases A with
    | none =>
      have hc0 := hnil rfl
      subst hc0
      have hl0 : l = [] := List.eq_nil_of_length_eq_zero (by have := hrm; omega)
      subst hl0
      exact run_convert_bytes_nil (P := Tryd.prog) W 43 5 Tryd.underlying43 Tryd.underlying5 _ _ 9 Tryd.underlying9
    | some a =>
      refine run_convert_bytes_back (P := Tryd.prog) W 43 9 5 a cap l Tryd.underlying43 Tryd.underlying5 Tryd.underlying9 (fun j hj => ?_)
      obtain ⟨b, off, e, hc⟩ := hlW.at_ (by omega)
      have e := Option.some.inj e
      subst e
      rw [Addr.add_lit]
      have := hc j (by unfold Lib.byteCells; rw [List.length_map]; exact hj)
      rw [this]
      unfold Lib.byteCells
      rw [List.getElem_map]
  have HCV := Lib.hid hconv
  have HCK := Lib.hid (mcheck_any sk w (by omega) hE)
  have HL := Lib.hid hl
  have HEE := Lib.hid hE
  have HLEN := Lib.hid hlen
  have HSKL := Lib.hid hskl
  clear hconv hl hE hlen hskl hnil
  go_enter Tryd.func10, Tryd.ntmps10
  go_wp2_with fail
  refine HCK.out.mono ?_
  rintro e w1 ⟨kk, z, rfl, rfl, hok⟩
  by_cases hz : z = 0
  rotate_left
  · have hzb : (z != 0) = true := by simpa using hz
    clear hok
    go_wp2_with fail
    refine (HAW.out _ (Ext.refl w)).mono ?_
    rintro e w2 ⟨rfl, hx2⟩
    go_wp2_with fail
    go_ret
    exact ⟨rfl, hx2⟩
  have hok2 := hok hz
  clear hok
  subst hz
  have hsrc0 : (⟨#[48, 32, 38, 115, 116, 97, 114, 116, 32, 63, 32]⟩ ++ sk ++ ⟨#[32, 115, 116, 97, 114, 116, 58, 32]⟩ : ByteArray).data.toList = preJ sk.data.toList := by
    rw [ByteArray.data_append, Array.toList_append, ByteArray.data_append, Array.toList_append]
    rfl
  have hsz0 : (⟨#[48, 32, 38, 115, 116, 97, 114, 116, 32, 63, 32]⟩ ++ sk ++ ⟨#[32, 115, 116, 97, 114, 116, 58, 32]⟩ : ByteArray).size ≤ 200 := by
    rw [ByteArray.size_append, ByteArray.size_append]
    show 11 + _ + 8 ≤ _
    omega
  have HOK := Lib.hid hok2
  have HS0 := Lib.hid hsrc0
  have HZ0 := Lib.hid hsz0
  clear hok2 hsrc0 hsz0
  go_wp2_with fail
  go_loopw [9, 11, 48] (fun s _ i wr => ∃ (k : Nat) (X : ByteArray), k ≤ n ∧ i = .int .i64 k ∧ s = .string X ∧ X.data.toList = preJ sk.data.toList ++ (l.take k).flatMap wJ ∧ X.size ≤ 200 + 10 * k ∧ Ext w wr) (fun _ _ i _ => n - (intOf i).toNat)
  case atStart => exact ⟨0, _, Nat.zero_le _, rfl, rfl, by rw [HS0.out]; simp, by have := HZ0.out; omega, Ext.refl w⟩
  case round =>
    obtain ⟨k, X, hk, rfl, rfl, hX, hXs, hx⟩ := hrel
    by_cases hkn : k < n
    · have hkl : k < l.length := by rw [← HLEN.out]; exact hkn
      obtain ⟨b, off, rfl, hc⟩ := HL.out.at_ (by omega)
      have hc1 := hx.cell (hc k (by unfold Lib.byteCells; rw [List.length_map]; exact hkl))
      have hbv : (Lib.byteCells l)[k]'(by unfold Lib.byteCells; rw [List.length_map]; exact hkl) = .int .u8 (l[k].toNat : Int) := by unfold Lib.byteCells; rw [List.getElem_map]
      rw [hbv] at hc1
      have hnx : ∀ Y : ByteArray, Y = X ++ (BA (decDigits l[k].toNat) ++ ⟨#[32, 46, 32]⟩) → Y.data.toList = preJ sk.data.toList ++ (l.take (k + 1)).flatMap wJ ∧ Y.size ≤ 200 + 10 * (k + 1) := by
        intro Y hY
        have h3 : (decDigits l[k].toNat).length ≤ 3 := dec_len (k := 2) (Nat.lt_trans (UInt8.toNat_lt l[k]) (by decide))
        subst hY
        constructor
        · rw [ByteArray.data_append, Array.toList_append, ByteArray.data_append, Array.toList_append, hX, BA_data, List.take_succ_eq_append_getElem hkl, List.flatMap_append, List.append_assoc]
          congr 2
          simp [wJ]
        · rw [ByteArray.size_append, ByteArray.size_append, BA_size]
          show X.size + (_ + 3) ≤ _
          omega
      have HLI := Lib.hid (literal_any l[k].toNat (Nat.lt_trans (UInt8.toNat_lt l[k]) (by decide)) wr (HEE.out.ext hx))
      have hb255 : l[k].toNat < 256 := UInt8.toNat_lt l[k]
      have hD3 : (BA (decDigits l[k].toNat)).size ≤ 3 := dec_len (k := 2) (Nat.lt_trans (UInt8.toNat_lt l[k]) (by decide))
      generalize l[k].toNat = u at *
      generalize BA (decDigits u) = D at *
      have HNX := Lib.hid hnx
      have HX := Lib.hid hx
      clear hnx hx hX hbv hc
      go_wp2_with fail
      refine HLI.out.mono ?_
      rintro e w2 ⟨rfl, hx2⟩
      have HX2 := Lib.hid (HX.out.trans hx2)
      clear hx2
      go_wp2_with fail
      go_roundw
      case rel => exact ⟨k + 1, _, by omega, by go_num, rfl, (HNX.out _ rfl).1, (HNX.out _ rfl).2, HX2.out⟩
      case measure => (simp [intOf] <;> omega)
    · obtain rfl : k = n := by omega
      rw [HLEN.out, List.take_length] at hX
      obtain ⟨Y, hY⟩ : ∃ Y, Y = X ++ ⟨#[36]⟩ := ⟨_, rfl⟩
      have hYd : Y.data.toList = srcJ l sk.data.toList := by
        rw [hY, ByteArray.data_append, Array.toList_append, hX, src_flat]
      have hYs : Y.size ≤ 100000 := by
        rw [hY, ByteArray.size_append]
        show X.size + 1 ≤ _
        omega
      have HAS := Lib.hid (assemble_any Y oo wr hYs (HEE.out.ext hx))
      obtain ⟨P, d, hP1, hP2, hasm⟩ := asm_jump l sk.data.toList oo (by omega) (by omega) (by rw [← HLEN.out]; exact hn60) (by rw [HSKL.out]; exact hs100) HOK.out
      obtain ⟨a, ha⟩ : ∃ a, a = oo + (8 + P.length) := ⟨_, rfl⟩
      have hcast : (oo : Int) + ((8 + P.length : Nat) : Int) = (a : Int) := by omega
      rw [hcast] at hasm
      obtain ⟨T, hTd⟩ : ∃ T, T = [48, 32] ++ sixA (a : Int) ++ (P ++ zJ d l) := ⟨_, rfl⟩
      have hT := jump_runs oo l P d ho hP1 hP2 (by rw [← HLEN.out]; exact hn60) T (by rw [hcast]; exact hTd)
      rw [← hTd] at hasm
      rw [hYd, hasm] at HAS
      rw [← ha] at hT
      obtain ⟨⟨q1, q2⟩, ⟨q3, q4⟩, q5⟩ := hT
      have ha2 : a < 262144 := by omega
      have HRU : Hid (∀ start, start < 262144 → (runO oo T start [] 5000).1 = l → (runO oo T start [] 5000).2.1 = 0 → ∃ N : Int, ∀ (bt : Nat) (W : World), W.cell? ⟨bt, 0, none⟩ = some (.int .i64 (oo : Int)) → W.cell? ⟨bt, 1, none⟩ = some (.string (BA T)) →
          Calls Tryd.prog 26 #[.slice (some ⟨bt, 0, none⟩) 1 1, .int .i64 (start : Int), .slice none 0 0, .int .i64 5000] W fun e w' => e = .returned (.agg #[.string (BA l), .int .i64 0, .int .i64 N]) ∧ Ext W w') := by
        intro start hs g1 g2
        refine ⟨(runO oo T start [] 5000).2.2, fun bt W h0 h1 => ?_⟩
        refine (Run_any oo start (BA T) [] 5000 bt 1 none 0 0 W h0 h1 (Nat.le_refl _) (by decide) (Lst.nil W) (fun p hp => by cases hp) (fun x hx => by cases hx) (by decide) (by rw [BA_size]; omega) hs).mono (fun e w' ⟨h, hx⟩ => ⟨?_, hx⟩)
        rw [h, BA_data]
        unfold outV
        rw [g1, g2]
      obtain ⟨N1, hr1⟩ := HRU.out oo (by omega) q1 q2
      obtain ⟨N2, hr2⟩ := HRU.out a ha2 q3 q4
      have HR1 := Lib.hid hr1
      have HR2 := Lib.hid hr2
      have HY := Lib.hid hY
      have HX := Lib.hid hx
      generalize BA T = TB at *
      clear HRU hr1 hr2 q1 q2 q3 q4 q5 hTd hasm hcast ha hP1 hP2 hY hYd hx hX
      go_wp2_with (rw [← HY.out])
      refine HAS.out.mono ?_
      rintro e w2 ⟨A2, cap2, rfl, hl2, hx2⟩
      have hrm2 := hl2.room
      have hmx2 := hl2.max
      unfold maxLen at hmx2
      obtain ⟨b2, off2, hA2, hc2⟩ := hl2.at_ (by simp)
      subst hA2
      have hc3 : w2.cell? ⟨b2, off2 + 1, none⟩ = some (.int .i64 (a : Int)) := (hc2 0 (by simp)).2
      have HX2 := Lib.hid (HX.out.trans hx2)
      obtain ⟨w3, hw3⟩ : ∃ W, W = w2.alloc (.cells #[.int .i64 (oo : Int), .string TB] 52) := ⟨_, rfl⟩
      have hx3 : Ext w2 w3 := by rw [hw3]; exact (Ext.refl w2).alloc _
      have e30 : w3.cell? ⟨w2.heap.size, 0, none⟩ = some (.int .i64 (oo : Int)) := by rw [hw3]; simp
      have e31 : w3.cell? ⟨w2.heap.size, 1, none⟩ = some (.string TB) := by rw [hw3]; simp
      have HW3 := Lib.hid hw3
      have HC3 := Lib.hid hc3
      have HX3 := Lib.hid hx3
      have HQ1 := Lib.hid (HR1.out w2.heap.size w3 e30 e31)
      clear hl2 hc2 hx2 hw3 hc3 hx3 e30 e31
      rw [show ([(startW, (a : Int))] : List Lab).length = 1 from rfl] at hrm2 ⊢
      go_wp2_with (rw [← HW3.out])
      refine HQ1.out.mono ?_
      rintro e w4 ⟨rfl, hx4⟩
      have HX24 := Lib.hid (HX3.out.trans hx4)
      obtain ⟨w5, hw5⟩ : ∃ W, W = w4.alloc (.cells #[.string (BA l), .int .i64 0, .int .i64 N1] 49) := ⟨_, rfl⟩
      have hx5 : Ext w4 w5 := by rw [hw5]; exact (Ext.refl w4).alloc _
      have o1 : w5.cell? ⟨w4.heap.size, 0, none⟩ = some (.string (BA l)) := by rw [hw5]; simp
      have o2 : w5.cell? ⟨w4.heap.size, 1, none⟩ = some (.int .i64 0) := by rw [hw5]; simp
      have o3 : w5.cell? ⟨w4.heap.size, 2, none⟩ = some (.int .i64 N1) := by rw [hw5]; simp
      obtain ⟨w6, hw6⟩ : ∃ W, W = w5.alloc (.cells #[.int .i64 (oo : Int), .string TB] 52) := ⟨_, rfl⟩
      have hx6 : Ext w5 w6 := by rw [hw6]; exact (Ext.refl w5).alloc _
      have e60 : w6.cell? ⟨w5.heap.size, 0, none⟩ = some (.int .i64 (oo : Int)) := by rw [hw6]; simp
      have e61 : w6.cell? ⟨w5.heap.size, 1, none⟩ = some (.string TB) := by rw [hw6]; simp
      have hlab := HC3.out
      have hlab5 := (HX24.out.trans hx5).cell hlab
      have hlab6 := ((HX24.out.trans hx5).trans hx6).cell hlab
      have HW5 := Lib.hid hw5
      have HW6 := Lib.hid hw6
      have HX26 := Lib.hid ((HX24.out.trans hx5).trans hx6)
      have HO1 := Lib.hid (And.intro o1 (And.intro o2 o3))
      have HX56 := Lib.hid hx6
      have HQ2 := Lib.hid (HR2.out w5.heap.size w6 e60 e61)
      clear hx4 hw5 hx5 o1 o2 o3 hw6 hx6 e60 e61 hlab
      go_wp2_with (first | rw [← HW5.out] | rw [← HW6.out])
      refine HQ2.out.mono ?_
      rintro e w7 ⟨rfl, hx7⟩
      obtain ⟨w8, hw8⟩ : ∃ W, W = w7.alloc (.cells #[.string (BA l), .int .i64 0, .int .i64 N2] 49) := ⟨_, rfl⟩
      have hx8 : Ext w7 w8 := by rw [hw8]; exact (Ext.refl w7).alloc _
      have p1 : w8.cell? ⟨w7.heap.size, 0, none⟩ = some (.string (BA l)) := by rw [hw8]; simp
      have p2 : w8.cell? ⟨w7.heap.size, 1, none⟩ = some (.int .i64 0) := by rw [hw8]; simp
      have hx58 := (HX56.out.trans hx7).trans hx8
      have o1 := hx58.cell HO1.out.1
      have o2 := hx58.cell HO1.out.2.1
      have HW8 := Lib.hid hw8
      have HX8 := Lib.hid ((HX2.out.trans HX26.out).trans (hx7.trans hx8))
      have hcv := HCV.out w8 HX8.out
      clear hx7 hw8 hx8 hx58 hlab5 hlab6
      go_wp2_with (rw [← HW8.out])
      refine (HAW.out _ HX8.out).mono ?_
      rintro e w9 ⟨rfl, hx9⟩
      go_wp2_with fail
      go_ret
      exact ⟨rfl, HX8.out.trans hx9⟩
end Go.Proofs.YtimegcnpembhkaaDoor
