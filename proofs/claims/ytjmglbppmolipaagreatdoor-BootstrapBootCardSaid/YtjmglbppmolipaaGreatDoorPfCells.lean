/- Contracts: cells.FromBytes of the library and of the reference. (Layer 26) -/
import Derived.Test.YtjmglbppmolipaaGreatDoorAsmLib
import Derived.Laws.BytesArg
import Derived.IntWalk
namespace Go.Proofs.YtjmglbppmolipaaGreatDoor
open Go.RowKit
open Go.Lib hiding intOf
set_option linter.unusedVariables false

/-- the cell of a byte at place k from the left -/
def bitC (b : UInt8) (k : Nat) : UInt8 := UInt8.ofNat (48 + b.toNat / 2 ^ (7 - k) % 2)
def bits8 (b : UInt8) : List UInt8 := (List.range 8).map (bitC b)
def cellsB (l : List UInt8) : List UInt8 := l.flatMap bits8
theorem cellsB_len (l : List UInt8) : (cellsB l).length = 8 * l.length := by
  induction l with
  | nil => rfl
  | cons b l ih => show (bits8 b ++ cellsB l).length = _; rw [List.length_append, ih, List.length_cons]; simp [bits8]; omega
theorem cellsB_append (a b : List UInt8) : cellsB (a ++ b) = cellsB a ++ cellsB b := by simp [cellsB]
theorem cellsB_snoc (s : ByteArray) (i : Nat) (h : i < s.size) : cellsB (s.data.toList.take (i + 1)) = cellsB (s.data.toList.take i) ++ bits8 s[i] := by
  rw [List.take_succ_eq_append_getElem (show i < s.data.toList.length from h), cellsB_append]
  show _ ++ (bits8 s.data.toList[i] ++ []) = _
  rw [List.append_nil]; rfl
theorem bits8_take (b : UInt8) (k : Nat) (h : k < 8) : (bits8 b).take (k + 1) = (bits8 b).take k ++ [bitC b k] := by
  unfold bits8
  rw [List.take_succ_eq_append_getElem (by simpa using h)]
  simp
theorem bitC_nat (b : UInt8) (k : Nat) : (bitC b k).toNat = 48 + b.toNat / 2 ^ (7 - k) % 2 := by
  unfold bitC
  rw [UInt8.toNat_ofNat']
  omega

theorem and_one : ∀ m : Fin 256, bits .and .u8 (m.val : Int) 1 = ((m.val % 2 : Nat) : Int) := by decide +kernel
theorem bitC_int (b : UInt8) (k : Nat) : (48 + bits .and .u8 ((b.toNat : Int) / 2 ^ (7 - k)) 1) % 256 = ((bitC b k).toNat : Int) := by
  have h : b.toNat / 2 ^ (7 - k) < 256 := Nat.lt_of_le_of_lt (Nat.div_le_self _ _) b.toNat_lt
  have e : (b.toNat : Int) / 2 ^ (7 - k) = ((b.toNat / 2 ^ (7 - k) : Nat) : Int) := by rw [Int.natCast_ediv, Int.natCast_pow]; rfl
  have h2 := and_one ⟨_, h⟩
  simp only at h2
  rw [e, h2, bitC_nat]
  omega
theorem bits8_full (b : UInt8) : (bits8 b).take 8 = bits8 b := List.take_of_length_le (by simp [bits8])

set_option maxRecDepth 100000 in
set_option maxHeartbeats 1600000 in
theorem fromBytes_any (s : ByteArray) (w : World) (hs : s.size ≤ 1000000) :
    Calls Tryz.prog 50 #[.string s] w fun e w' => e = .returned (.string (BA (cellsB s.data.toList))) ∧ Ext w w' := by
  go_enter Tryz.func50, Tryz.ntmps50
  go_wp2_with fail
  go_loopw [8] (fun iv wr => ∃ i : Nat, iv = .int .i64 i ∧ i ≤ s.size ∧ Bld w.heap.size w.heap.size (cellsB (s.data.toList.take i)) wr ∧ Ext w wr) (fun iv _ => s.size - (intOf iv).toNat)
  case atStart => exact ⟨0, rfl, Nat.zero_le _, Bld.fresh w _ _ _ (Nat.le_refl _) (by show (w.heap.push _)[w.heap.size]? = _; simp), (Ext.refl _).alloc _⟩
  case round =>
    obtain ⟨i, rfl, hi, hB, hx⟩ := hrel
    have HB := Lib.hid hB
    clear hB
    by_cases hlt : i < s.size
    · have hst := Lib.hid (cellsB_snoc s i hlt)
      have hln : (cellsB (s.data.toList.take i)).length ≤ 8000000 := by rw [cellsB_len, List.length_take]; omega
      generalize cellsB (s.data.toList.take i) = out at *
      go_wp2_with fail
      go_loopw [11] (fun kv wr => ∃ k : Nat, kv = .int .i64 k ∧ k ≤ 8 ∧ Bld w.heap.size w.heap.size (out ++ (bits8 s[i]).take k) wr ∧ Ext w wr) (fun kv _ => 8 - (intOf kv).toNat)
      case atStart => exact ⟨0, rfl, Nat.zero_le _, by rw [List.take_zero, List.append_nil]; exact HB.out, hx⟩
      case round =>
        obtain ⟨k, rfl, hk, hB, hx⟩ := hrel
        have HB := Lib.hid hB
        clear hB
        by_cases hk8 : k < 8
        · have hst2 := Lib.hid (bits8_take s[i] k hk8)
          have hc := bitC_int s[i] k
          have HC := Lib.hid hc
          have hll : (out ++ (bits8 s[i]).take k).length ≤ 8000008 := by rw [List.length_append, List.length_take]; omega
          clear hc
          go_wp2_with fail
          rw [HC.out]
          refine (bld_byte w.heap.size w.heap.size _ (bitC s[i] k) _ HB.out (by omega) hx.size).mono ?_
          rintro e w1 ⟨rfl, hb1, hlo, hk1⟩
          have hx1 : Ext w w1 := Below.trans hx hlo
          have HB1 := Lib.hid hb1
          clear hb1
          go_wp2_with fail
          go_roundw
          case rel => exact ⟨k + 1, by go_num, by omega, by rw [hst2.out, ← List.append_assoc]; exact HB1.out, hx1⟩
          case measure => simp [intOf]; omega
        · obtain rfl : k = 8 := by omega
          rw [bits8_full, ← hst.out] at HB
          go_wp2_with fail
          go_roundw
          case rel => exact ⟨i + 1, by go_num, by omega, HB.out, hx⟩
          case measure => simp [intOf]; omega
    · obtain rfl : i = s.size := by omega
      have hfull : s.data.toList.take s.size = s.data.toList := List.take_of_length_le (Nat.le_refl _)
      rw [hfull] at HB
      clear hfull
      obtain ⟨out, hout⟩ : ∃ out, out = cellsB s.data.toList := ⟨_, rfl⟩
      rw [← hout] at HB
      go_wp2_with fail
      refine (bld_string w.heap.size w.heap.size out _ HB.out hx.size).mono ?_
      rintro e w1 ⟨rfl, hlo, hk1⟩
      go_wp2_with fail
      go_ret
      exact ⟨by rw [← hout]; rfl, Below.trans hx hlo⟩

theorem own_empty (w : World) (base : Nat) (e : TypeId) (size : Nat) (hb : base ≤ w.heap.size) : (w.alloc (.cells #[] e)).ownsRow base e size (.slice (some ⟨w.heap.size, 0, none⟩) 0 0) 0 [] :=
  World.ownsRow_made w #[] 0 hb (by decide) (by simp)
theorem conv_own {w : World} {base n : Nat} {v : Value} {l : List UInt8} (h : w.ownsRow base 5 1 v n (Lib.byteCells l)) (hn : n = l.length) :
    (convert 46 9 v).run Tryz.prog w = .ok (.string (BA l)) w := by
  subst hn
  rcases hv : h.2 with ⟨rfl, h0⟩ | ⟨g, cap, cur, rfl, hh⟩
  · have hl : l = [] := by cases l with | nil => rfl | cons a b => simp at h0
    subst hl
    exact run_convert_bytes_nil (P := Tryz.prog) w 46 5 Tryz.underlying46 Tryz.underlying5 _ _ 9 Tryz.underlying9
  · exact run_convert_bytes_back (P := Tryz.prog) w 46 9 5 ⟨g, 0, none⟩ cap l Tryz.underlying46 Tryz.underlying5 Tryz.underlying9 (fun j hj => h.cells rfl j _ (by unfold Lib.byteCells; rw [List.getElem?_map, List.getElem?_eq_getElem hj]; rfl))

theorem half_k : ∀ m : Fin 8, 128 / 2 ^ m.val = 2 ^ (7 - m.val) ∧ 1 ≤ 128 / 2 ^ m.val ∧ 128 / 2 ^ m.val ≤ 128 ∧ 128 / 2 ^ (m.val + 1) = 128 / 2 ^ m.val / 2 := by decide

set_option maxRecDepth 100000 in
set_option maxHeartbeats 1600000 in
theorem rfromBytes_any (s : ByteArray) (w : World) (hs : s.size ≤ 1000000) :
    Calls Tryz.prog 60 #[.string s] w fun e w' => e = .returned (.string (BA (cellsB s.data.toList))) ∧ Ext w w' := by
  obtain ⟨i0, hi0, hz0, hz1, hz2⟩ := info_parts byteInfo
  go_enter Tryz.func60, Tryz.ntmps60
  go_wp2_with fail
  go_loopw [3, 4] (fun ov iv wr => ∃ i : Nat, iv = .int .i64 i ∧ i ≤ s.size ∧ wr.ownsRow w.heap.size 5 1 ov (8 * i) (Lib.byteCells (cellsB (s.data.toList.take i))) ∧ Ext w wr) (fun _ iv _ => s.size - (intOf iv).toNat)
  case atStart => exact ⟨0, rfl, Nat.zero_le _, own_empty w _ _ _ (Nat.le_refl _), (Ext.refl _).alloc _⟩
  case round =>
    obtain ⟨i, rfl, hi, hown, hx⟩ := hrel
    have HO := Lib.hid hown
    clear hown
    by_cases hlt : i < s.size
    · have hst := Lib.hid (cellsB_snoc s i hlt)
      generalize cellsB (s.data.toList.take i) = out at *
      go_wp2_with fail
      go_loopw [3, 5] (fun ov kv wr => ∃ m K : Nat, m ≤ 8 ∧ Hid (K = 128 / 2 ^ m) ∧ kv = .int .i64 K ∧ wr.ownsRow w.heap.size 5 1 ov (8 * i + m) (Lib.byteCells (out ++ (bits8 s[i]).take m)) ∧ Ext w wr) (fun _ kv _ => (intOf kv).toNat)
      case atStart => exact ⟨0, 128, Nat.zero_le _, rfl, rfl, by rw [List.take_zero, List.append_nil]; exact HO.out, hx⟩
      case round =>
        obtain ⟨m, K, hm, HK, rfl, hown, hx⟩ := hrel
        have HO := Lib.hid hown
        clear hown
        by_cases hm8 : m < 8
        · have hst2 := bits8_take s[i] m hm8
          obtain ⟨g1, g2, g3, g4⟩ := half_k ⟨m, hm8⟩
          simp only at g1 g2 g3 g4
          have hbc := bitC_nat s[i] m
          rw [← g1] at hbc
          have hb256 := s[i].toNat_lt
          rw [← HK.out] at g2 g3 g4 hbc
          obtain ⟨q, hq⟩ : ∃ q, q = s[i].toNat / K := ⟨_, rfl⟩
          have hq256 : q ≤ s[i].toNat := by rw [hq]; exact Nat.div_le_self _ _
          obtain ⟨r, hr⟩ : ∃ r, r = q % 2 := ⟨_, rfl⟩
          obtain ⟨K2, hK2⟩ : ∃ K2, K2 = K / 2 := ⟨_, rfl⟩
          have e1 : (s[i].toNat : Int) / (K : Int) = (q : Int) := by rw [hq, Int.natCast_ediv]
          have e2 : (q : Int) % 2 = (r : Int) := by omega
          have e3 : (K : Int) / 2 = (K2 : Int) := by omega
          have hr1 : r ≤ 1 := by omega
          have HBC : Hid (Lib.byteCells (out ++ (bits8 s[i]).take (m + 1)) = Lib.byteCells (out ++ (bits8 s[i]).take m) ++ [.int .u8 (48 + (r : Int))]) := by
            show _ = _
            unfold Lib.byteCells
            rw [hst2, ← List.append_assoc, List.map_append, List.map_cons, List.map_nil, hbc, ← hq, ← hr]
            rfl
          have HK2 : Hid (K2 = 128 / 2 ^ (m + 1)) := by show _ = _; rw [g4, hK2]
          have hK2lt : K2 < K := by omega
          have hK0 : (K : Int) ≠ 0 := by omega
          have hb255 : s[i].toNat ≤ 255 := by omega
          clear hq hr hK2 g1 g4 hbc hst2 hb256
          generalize hbv : s[i].toNat = bv at *
          have hi := hi0
          go_wp2_with (at_builtin; refine wpList_append_own _ rfl (.tmp 17) (.tmp 27) _ rfl w.heap.size 5 i0 _ 1 1 Tryz.underlying46 hi hz0 hz1 hz2 rfl (by omega) _ _ _ rfl (HO.out.alloc _) ⟨wr.heap.size, 0, none⟩ 1 1 [.int .u8 (48 + (r : Int))] rfl rfl ?c1 ?c2 ?c3 ?c4 ?c5 ?_)
          case c1 =>
            intro j u hu
            match j, hu with
            | 0, hu => simp at hu; subst hu; go_cell
          case c2 =>
            intro u hu
            simp at hu
            subst hu; rfl
          case c3 => unfold maxLen; omega
          case c4 => omega
          case c5 => (have hc5 := hx.size; try simp at hc5); simp; omega
          intro v' w2 hown2 hgr _
          have hx3 := (hx.alloc (.cells #[.int .u8 (48 + (r : Int))] 5)).grown hgr (fun k hk => (HO.out.lt k hk).1)
          have HO2 := Lib.hid hown2
          have HG := Lib.hid hgr
          clear hown2 hgr
          go_wp2_with fail
          go_roundw
          case rel => exact ⟨m + 1, K2, by omega, HK2, by go_num, by rw [HBC.out]; exact HO2.out, hx3⟩
          case measure => first | (simp [intOf]; done) | (simp [intOf]; omega)
        · obtain rfl : m = 8 := by omega
          rw [bits8_full, ← hst.out] at HO
          have hK0 : K = 0 := by rw [HK.out]
          subst hK0
          go_wp2_with fail
          go_roundw
          case rel => exact ⟨i + 1, by go_num, by omega, HO.out, hx⟩
          case measure => first | (simp [intOf]; done) | (simp [intOf]; omega)
    · obtain rfl : i = s.size := by omega
      have hfull : s.data.toList.take s.size = s.data.toList := List.take_of_length_le (Nat.le_refl _)
      rw [hfull] at HO
      clear hfull
      have hcv := conv_own HO.out (by rw [cellsB_len]; rfl)
      obtain ⟨out, hout⟩ : ∃ out, out = cellsB s.data.toList := ⟨_, rfl⟩
      rw [← hout] at hcv
      clear HO
      go_wp2_with fail
      go_ret
      exact ⟨by rw [← hout]; rfl, hx⟩
end Go.Proofs.YtjmglbppmolipaaGreatDoor
