/- Contracts: cells.Check and cells.ToBytes of the library. (Layer 26) -/
import Derived.Test.YtjmglbppmolipaaGreatDoorPfCells
import Derived.WalkSpells
namespace Go.Proofs.YtjmglbppmolipaaGreatDoor
open Go.RowKit
open Go.Lib hiding intOf
set_option linter.unusedVariables false

/-- all characters are cells -/
def cellsOk (l : List UInt8) : Bool := l.all ([48, 49, 63].contains ·)
def chkC (l : List UInt8) : Int := if cellsOk l = true then 0 else 3
/-- one cell more -/
def accB (acc : Nat) (c : UInt8) : Nat := acc * 2 % 256 + (if c = 49 then 1 else 0)
def byteC (l : List UInt8) : UInt8 := UInt8.ofNat (l.foldl accB 0)
def bytesC (l : List UInt8) : List UInt8 := (List.range (l.length / 8)).map fun i => byteC ((l.drop (i * 8)).take 8)
theorem accB_lt (l : List UInt8) : ∀ a, a < 256 → l.foldl accB a < 256 := by
  induction l with
  | nil => exact fun a h => h
  | cons c l ih => exact fun a h => ih _ (by unfold accB; split <;> omega)
theorem acc_snoc (l : List UInt8) (k : Nat) (h : k < l.length) : (l.take (k + 1)).foldl accB 0 = accB ((l.take k).foldl accB 0) l[k] := by
  rw [List.take_succ_eq_append_getElem h, List.foldl_append]; rfl
theorem or_one : ∀ m : Fin 128, bits .or .u8 ((m.val * 2 : Nat) : Int) 1 = ((m.val * 2 + 1 : Nat) : Int) := by decide +kernel
theorem byteC_bits : ∀ n : Fin 256, byteC (bits8 (UInt8.ofNat n.val)) = UInt8.ofNat n.val := by decide +kernel
theorem bytesC_cells (l : List UInt8) : bytesC (cellsB l) = l := by
  unfold bytesC
  rw [cellsB_len, Nat.mul_div_cancel_left _ (by decide)]
  induction l with
  | nil => rfl
  | cons b l ih =>
    rw [List.length_cons, List.range_succ_eq_map, List.map_cons, List.map_map]
    have e : cellsB (b :: l) = bits8 b ++ cellsB l := rfl
    have hb : (bits8 b).length = 8 := by simp [bits8]
    have h0 : byteC (((cellsB (b :: l)).drop (0 * 8)).take 8) = b := by
      rw [e, Nat.zero_mul, List.drop_zero, List.take_append_of_le_length (by omega), List.take_of_length_le (by omega)]
      have h := byteC_bits ⟨b.toNat, b.toNat_lt⟩
      rwa [show UInt8.ofNat (⟨b.toNat, b.toNat_lt⟩ : Fin 256).val = b from UInt8.ofNat_toNat] at h
    rw [h0]
    congr 1
    refine Eq.trans (List.map_congr_left fun i _ => ?_) ih
    show byteC (((cellsB (b :: l)).drop ((i + 1) * 8)).take 8) = _
    rw [e, show (i + 1) * 8 = 8 + i * 8 by omega, ← hb, List.drop_append, List.drop_eq_nil_of_le (by omega)]
    simp
theorem bytesC_take (l : List UInt8) (i : Nat) (h : i < l.length / 8) : (bytesC l).take (i + 1) = (bytesC l).take i ++ [byteC ((l.drop (i * 8)).take 8)] := by
  unfold bytesC
  rw [List.take_succ_eq_append_getElem (by simpa using h)]
  simp
theorem bytesC_len (l : List UInt8) : (bytesC l).length = l.length / 8 := by simp [bytesC]

set_option maxRecDepth 100000 in
theorem ccheck_any (s : ByteArray) (w : World) (hs : s.size ≤ maxLen) :
    Calls Tryz.prog 93 #[.string s] w fun e w' => e = .returned (.int .i64 (chkC s.data.toList)) ∧ Ext w w' := by
  have hT := fun W => trim_any [48, 49, 63] (by decide) (by decide) s W hs
  obtain ⟨b, hb⟩ : ∃ b, b = cellsOk s.data.toList := ⟨_, rfl⟩
  unfold chkC
  rw [← hb]
  unfold cellsOk at hb
  rw [← hb] at hT
  have HT := Lib.hid hT
  clear hT hb
  cases b
  all_goals
    go_enter Tryz.func93, Tryz.ntmps93
    go_wp2_with fail
    refine (HT.out _).mono ?_
    rintro e w1 ⟨r, rfl, hr, hx⟩
    go_wp2_with fail
    go_ret
    exact ⟨rfl, hx⟩

set_option maxRecDepth 100000 in
set_option maxHeartbeats 3200000 in
theorem toBytes_any (s : ByteArray) (w : World) (hs : s.size ≤ 1000000) (h1 : cellsOk s.data.toList = true) (n : Nat) (h8 : s.size = 8 * n) :
    Calls Tryz.prog 95 #[.string s] w fun e w' => (∃ v, e = .returned (.tuple #[.string (BA (bytesC s.data.toList)), v, .int .i64 0])) ∧ Ext w w' := by
  have hck := fun W => ccheck_any s W (by unfold maxLen; omega)
  unfold chkC at hck
  rw [if_pos h1] at hck
  have HCK := Lib.hid hck
  clear hck h1
  have hq1 : (s.size : Int) % 8 = 0 := by omega
  have hq2 : (s.size : Int) / 8 = (n : Int) := by omega
  have hst : ∀ i, i < n → (bytesC s.data.toList).take (i + 1) = (bytesC s.data.toList).take i ++ [byteC ((s.extract (i * 8) ((i + 1) * 8)).data.toList)] := by
    intro i hi
    rw [bytesC_take _ i (by show i < s.size / 8; omega), ext_BA, BA_data, show (i + 1) * 8 - i * 8 = 8 by omega]
  have hbl : (bytesC s.data.toList).length = n := by rw [bytesC_len]; show s.size / 8 = n; omega
  generalize bytesC s.data.toList = R at *
  have HST := Lib.hid hst
  have HBL := Lib.hid hbl
  clear hst hbl
  have Tryz_intInfo : (Tryz.prog.info? 3).map (fun i => (i.zero, i.size, i.bytes)) = some (some (.int .i64 0), 1, 8) := by kernel_rfl
  obtain ⟨i0, hi0, hz0, hz1, hz2⟩ := info_parts Tryz_intInfo
  go_enter Tryz.func95, Tryz.ntmps95
  go_wp2_with fail
  refine (HCK.out _).mono ?_
  rintro e w1 ⟨rfl, hx1⟩
  go_wp2_with fail
  go_loopw [7, 24] (fun ov iv wr => ∃ (i : Nat) (xs : List Value), iv = .int .i64 i ∧ i ≤ n ∧ xs.length ≤ i ∧ wr.ownsRow w.heap.size 3 1 ov xs.length xs ∧ Bld w.heap.size w1.heap.size (R.take i) wr ∧ Ext w wr) (fun _ iv _ => n - (intOf iv).toNat)
  case atStart => exact ⟨0, [], rfl, Nat.zero_le _, Nat.le_refl _, World.ownsRow_nil _ _ _ _, Bld.fresh w1 _ _ _ hx1.size (by show (w1.heap.push _)[w1.heap.size]? = _; simp), hx1.alloc _⟩
  case round =>
    obtain ⟨i, xs, rfl, hi, hxs, hown, hB, hx⟩ := hrel
    have HO := Lib.hid hown
    have HB := Lib.hid hB
    clear hown hB
    by_cases hlt : i < n
    · obtain ⟨A0, hA0⟩ : ∃ A0, A0 = i * 8 := ⟨_, rfl⟩
      obtain ⟨A1, hA1⟩ : ∃ A1, A1 = (i + 1) * 8 := ⟨_, rfl⟩
      have f1 : (i : Int) * 8 = (A0 : Int) := by omega
      have f2 : ((i : Int) + 1) * 8 = (A1 : Int) := by omega
      have hst := HST.out i hlt
      rw [← hA0, ← hA1] at hst
      have hPz : (s.extract A0 A1).size = 8 := by rw [ByteArray.size_extract]; omega
      have hA1s : A1 ≤ s.size := by omega
      have hA01 : A0 ≤ A1 := by omega
      have HSTi := Lib.hid hst
      have hRl : (R.take i).length ≤ 1000000 := by rw [List.length_take]; omega
      clear hA0 hA1 hst
      go_wp2_with fail
      generalize s.extract A0 A1 = Pt at *
      clear f1 f2 hA01 hA1s
      have hPl : Pt.data.toList.length = 8 := hPz
      go_loopw [10, 34] (fun bv kv wr' => ∃ k acc : Nat, kv = .int .i64 k ∧ k ≤ 8 ∧ bv = .int .u8 acc ∧ Hid (acc = (Pt.data.toList.take k).foldl accB 0) ∧ wr' = wr) (fun _ kv _ => 8 - (intOf kv).toNat)
      case atStart => exact ⟨0, 0, rfl, Nat.zero_le _, rfl, rfl, rfl⟩
      case round =>
        obtain ⟨k, acc, rfl, hk, rfl, HA, rfl⟩ := hrel
        have hacc : acc < 256 := by rw [HA.out]; exact accB_lt _ _ (by decide)
        by_cases hk8 : k < 8
        · have hsn := acc_snoc Pt.data.toList k (by omega)
          rw [← HA.out] at hsn
          have hidx : Pt.data.toList[k]'(by omega) = Pt[k]'(by omega) := rfl
          rw [hidx] at hsn
          obtain ⟨m, hm⟩ : ∃ m, m = acc * 2 % 256 := ⟨_, rfl⟩
          have g1 : (acc : Int) * 2 % 256 = (m : Int) := by omega
          have hor : bits .or .u8 (m : Int) 1 = ((m + 1 : Nat) : Int) := by
            have h := or_one ⟨m / 2, by omega⟩
            simp only at h
            rwa [show m / 2 * 2 = m by omega] at h
          have hm254 : m ≤ 254 := by omega
          have ha2 : accB acc (Pt[k]'(by omega)) = m + (if (Pt[k]'(by omega)) = 49 then 1 else 0) := by unfold accB; rw [← hm]
          rw [ha2] at hsn
          clear hm hidx ha2
          by_cases hc : Pt[k]'(by omega) = 49
          · rw [if_pos hc] at hsn
            have hcn : ((Pt[k]'(by omega)).toNat : Int) = 49 := by rw [hc]; rfl
            have HSN := Lib.hid hsn
            clear hsn hc
            go_wp2_with fail
            go_roundw
            case rel => exact ⟨k + 1, m + 1, by go_num, by omega, by go_num, HSN.out.symm, trivial⟩
            case measure => simp [intOf]; omega
          · rw [if_neg hc, Nat.add_zero] at hsn
            have hcn : ¬ ((Pt[k]'(by omega)).toNat : Int) = 49 := fun h => hc (UInt8.toNat_inj.1 (by show _ = 49; omega))
            have HSN := Lib.hid hsn
            clear hsn hc hor
            go_wp2_with fail
            go_roundw
            case rel => exact ⟨k + 1, m, by go_num, by omega, by go_num, HSN.out.symm, trivial⟩
            case measure => simp [intOf]; omega
        · obtain rfl : k = 8 := by omega
          have hfin : acc = (byteC Pt.data.toList).toNat := by
            unfold byteC
            rw [HA.out, List.take_of_length_le (Nat.le_of_eq hPl), UInt8.toNat_ofNat_of_lt' (accB_lt _ _ (by decide))]
          subst hfin
          clear HA
          generalize byteC Pt.data.toList = cb at *
          go_wp2_with fail
          refine (bld_byte w.heap.size w1.heap.size _ cb _ HB.out (by omega) hx.size).mono ?_
          rintro e w2 ⟨rfl, hb2, hlo, hk2⟩
          have hx2 : Ext w w2 := Below.trans hx hlo
          have HO2 := Lib.hid (own_bkeep hk2 HO.out (by decide) (HB.out.type (by decide)))
          have HB2 := Lib.hid hb2
          rw [← HSTi.out] at HB2
          clear hb2
          go_wp2_with fail
          refine (Tryz.strings_Contains_one Pt 63 _).mono ?_
          rintro e w3 ⟨rfl, rfl⟩
          by_cases hq : 0 ≤ Lib.indexByte Pt.data.toList 63
          · have hqd : decide (0 ≤ Lib.indexByte Pt.data.toList 63) = true := decide_eq_true hq
            have HO := HO2
            clear HO2
            have hi := hi0
            go_wp2_with (at_builtin; refine wpList_append_own _ rfl (.tmp 50) (.tmp 52) _ rfl w.heap.size 3 i0 _ 1 8 Tryz.underlying73 hi hz0 hz1 hz2 rfl (by omega) _ _ _ rfl (HO.out.alloc _) ⟨w3.heap.size, 0, none⟩ 1 1 [.int .i64 i] rfl rfl ?c1 ?c2 ?c3 ?c4 ?c5 ?_)
            case c1 =>
              intro j u hu
              match j, hu with
              | 0, hu => simp at hu; subst hu; go_cell
            case c2 =>
              intro u hu
              simp at hu
              subst hu; rfl
            case c3 => unfold maxLen; omega
            case c4 => omega
            case c5 => (have hc5 := hx2.size; try simp at hc5); simp; omega
            intro v' w2 hown2 hgr _
            have hx3 := (hx2.alloc (.cells #[.int .i64 i] 3)).grown hgr (fun k hk => (HO.out.lt k hk).1)
            have HO2 := Lib.hid hown2
            have HG := Lib.hid hgr
            clear hown2 hgr
            have HB4 := Lib.hid ((Bld.ext HB2.out ((Ext.refl _).alloc _)).grown (HO.out.alloc _) (by decide) (by decide) HG.out)
            go_wp2_with fail
            go_roundw
            case rel => exact ⟨i + 1, xs ++ [.int .i64 i], by go_num, by omega, by rw [List.length_append]; simp; omega, by rw [List.length_append]; exact HO2.out, HB4.out, hx3⟩
            case measure => simp [intOf]; omega
          · have hqd : decide (0 ≤ Lib.indexByte Pt.data.toList 63) = false := decide_eq_false hq
            go_wp2_with fail
            go_roundw
            case rel => exact ⟨i + 1, xs, by go_num, by omega, by omega, HO2.out, HB2.out, hx2⟩
            case measure => simp [intOf]; omega
    · obtain rfl : i = n := by omega
      have hfull : R.take i = R := List.take_of_length_le (by rw [HBL.out]; exact Nat.le_refl _)
      rw [hfull] at HB
      clear hfull
      go_wp2_with fail
      refine (bld_string w.heap.size w1.heap.size R _ HB.out hx.size).mono ?_
      rintro e w2 ⟨rfl, hlo, hk2⟩
      go_wp2_with fail
      refine bodyPost_ret (v := .tuple #[.string (BA R), u7, .int .i64 0]) (by simp [results, Tryz.results95, go_sem, BA]) rfl ⟨⟨_, rfl⟩, Below.trans hx hlo⟩
end Go.Proofs.YtjmglbppmolipaaGreatDoor
