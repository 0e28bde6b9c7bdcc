/- The contracts of Words and Disassemble. -/
import Derived.Test.YtimegcnpembhkaaDoorAsmJoin
namespace Go.Proofs.YtimegcnpembhkaaDoor
open Go.RowKit
open Go.Lib hiding intOf
set_option linter.unusedVariables false

theorem Tryd.infoStr : (Tryd.prog.info? 9).map (fun i => (i.zero, i.size, i.bytes)) = some (some (.string ByteArray.empty), 1, 16) := by kernel_rfl

/-- the words of a source, in memory -/
def wordV (t : Tok) : Value := .string (BA t.1)

set_option maxHeartbeats 2000000 in
set_option maxRecDepth 100000 in
theorem awords_any (s : ByteArray) (w : World) (hs : s.size < 1000000000) (hE : Env w) :
    Calls Tryd.prog 19 #[.string s] w fun e w' => ∃ v, e = .returned v ∧ w'.ownsRow w.heap.size 9 1 v (toks s.data.toList).length ((toks s.data.toList).map wordV) ∧ Ext w w' := by
  obtain ⟨i0, hi, hz0, hz1, hz2⟩ := info_parts Tryd.infoStr
  have hsl : s.data.toList.length = s.size := rfl
  have hlen := toks_length s.data.toList
  rw [hsl] at hlen
  have htk := tokens_any s w (by omega) hE
  generalize toks s.data.toList = ts at *
  obtain ⟨WL, hWL⟩ : ∃ WL, WL = ts.map wordV := ⟨_, rfl⟩
  rw [← hWL]
  have HWL := Lib.hid hWL
  clear hWL
  have T1 := Lib.hid htk
  clear htk hsl
  go_enter Tryd.func19, Tryd.ntmps19
  go_wp2_with fail
  refine T1.out.mono ?_
  rintro e w1 ⟨v, rfl, hown, hx1⟩
  obtain ⟨A, cap, rfl, hl1⟩ : ∃ A cap, v = .slice A ts.length cap ∧ HLst w1 A ts.length cap (ts.map tokH) := by
    have := HLst.of_own (l := ts.map tokH) (by rw [List.length_map]; exact hown)
    rwa [List.length_map] at this
  clear hown
  have hroom := hl1.room
  have hmax := hl1.max
  unfold maxLen at hmax
  have HL := Lib.hid hl1
  clear hl1
  go_wp2_with fail
  go_loopw [3, 5, 9] (fun o p i wr => ∃ k : Nat, k ≤ ts.length ∧ i = .int .i64 k ∧ wr.ownsRow w1.heap.size 9 1 o k (WL.take k) ∧ Ext w1 wr) (fun _ _ i _ => ts.length - (intOf i).toNat)
  case atStart => exact ⟨0, Nat.zero_le _, rfl, World.ownsRow_nil _ _ _ _, Ext.refl _⟩
  case round =>
    obtain ⟨k, hk, rfl, hown, hx⟩ := hrel
    by_cases hlt : k < ts.length
    · obtain ⟨b, off, rfl, hc⟩ := HL.out.at_ (by omega)
      have hc1 := hx.cell (hc k (by rw [List.length_map]; exact hlt)).1
      have hc2 := hx.cell (hc k (by rw [List.length_map]; exact hlt)).2
      rw [List.getElem_map] at hc1 hc2
      have htake : Hid (WL.take (k + 1) = WL.take k ++ [.string (BA ts[k].1)]) := by
        show _ = _
        rw [HWL.out, List.take_succ_eq_append_getElem (by rw [List.length_map]; exact hlt), List.getElem_map]; rfl
      generalize ts[k] = t at *
      unfold tokH at hc1 hc2
      simp only at hc1 hc2
      have HC := Lib.hid hc
      have hx2 := hx.alloc (.cells #[.string (BA t.1), .int .i64 (t.2 : Int)] 76)
      have HO := Lib.hid (hown.alloc (.cells #[.string (BA t.1), .int .i64 (t.2 : Int)] 76))
      clear hc hown
      generalize BA t.1 = x at *
      generalize (t.2 : Int) = z at *
      go_wp2_with (at_builtin; refine wpList_append_own _ rfl (.tmp 13) (.tmp 16) _ rfl w1.heap.size 9 i0 _ 1 16 Tryd.underlying37 hi hz0 hz1 hz2 rfl (by omega) _ _ _ rfl (HO.out.alloc _) ⟨wr.heap.size + 1, 0, none⟩ 1 1 [.string x] rfl rfl ?c1 ?c2 ?c3 ?c4 ?c5 ?_)
      case c1 =>
        intro j u hu
        match j, hu with
        | 0, hu => simp at hu; subst hu; go_cell
      case c2 =>
        intro u hu
        simp at hu
        subst hu; rfl
      case c3 => unfold maxLen; omega
      case c4 => omega
      case c5 => (have hc5 := hx2.size; try simp at hc5); simp; omega
      intro v' w2 hown2 hgr _
      have hx3 := (hx2.alloc (.cells #[.string x] 9)).grown hgr (fun k hk => (HO.out.lt k hk).1)
      have HO2 := Lib.hid hown2
      have HG := Lib.hid hgr
      clear hown2 hgr
      go_wp2_with fail
      go_roundw
      case rel =>
        refine ⟨k + 1, by omega, by go_num, ?_, hx3⟩
        rw [htake.out]
        exact HO2.out
      case measure => simp [intOf]; omega
    · obtain rfl : k = ts.length := by omega
      rw [List.take_of_length_le (by rw [HWL.out, List.length_map]; exact Nat.le_refl _)] at hown
      have HO := Lib.hid hown
      clear hown
      go_wp2_with fail
      go_ret
      refine ⟨_, rfl, ?_, hx1.trans hx⟩
      obtain ⟨h1, h2⟩ := HO.out
      refine ⟨h1, ?_⟩
      rcases h2 with h | ⟨g, cap, cur, hv, hB, h⟩
      · exact Or.inl h
      · exact Or.inr ⟨g, cap, cur, hv, Nat.le_trans hx1.size hB, h⟩

/-- the text of a code's disassembly so far, given the byte before -/
def disGo : UInt8 → Bytes → Bytes → Bytes
  | _, out, [] => out
  | last, out, c :: r =>
    if c = 32 ∨ c = 10 then disGo c out r
    else disGo c ((if out ≠ [] ∧ ¬ (isDig c = true ∧ isDig last = true) then out ++ [32] else out) ++ [c]) r
def isWs (c : UInt8) : Bool := c == 32 || c == 10
def disOk (s : Bytes) : Bool := s.all fun c => isCd c || isWs c
/-- the answer of Disassemble -/
def disA (s : Bytes) : Bytes × Int := if disOk s = true then (disGo 32 [] s, 0) else ([], 3)

def dsCs : Bytes := [43, 45, 42, 47, 37, 94, 60, 64, 33, 63, 58, 59, 44, 46, 36, 48, 49, 50, 51, 52, 53, 54, 55, 56, 57, 32, 10]
theorem ds_eq (c : UInt8) : dsCs.contains c = (isCd c || isWs c) := u8_all (p := fun c => dsCs.contains c = (isCd c || isWs c)) (by decide +kernel) c

theorem u8_ne (b c : UInt8) (h : b ≠ c) : (((b.toNat : Nat) : Int) != ((c.toNat : Nat) : Int)) = true := by
  rw [bne_iff_ne]
  intro e
  exact h (UInt8.toNat_inj.1 (by omega))
theorem drop_get (s : ByteArray) (k : Nat) (h : k < s.size) : s.data.toList.drop k = s[k] :: s.data.toList.drop (k + 1) := List.drop_eq_getElem_cons (show k < s.data.toList.length from h)

set_option maxHeartbeats 2000000 in
set_option maxRecDepth 100000 in
theorem disassemble_any (s : ByteArray) (w : World) (hs : s.size < 1000000000) :
    Calls Tryd.prog 16 #[.string s] w fun e w' => e = .returned (.tuple #[.string (BA (disA s.data.toList).1), .int .i64 (disA s.data.toList).2]) ∧ Ext w w' := by
  have htr := fun W => trim_any dsCs (by decide) (by decide) s W (by omega)
  have hok : disOk s.data.toList = s.data.toList.all (dsCs.contains ·) := by
    unfold disOk
    rw [show (fun c => isCd c || isWs c) = (dsCs.contains ·) from (funext ds_eq).symm]
  unfold disA
  rw [hok]
  generalize (s.data.toList.all (dsCs.contains ·)) = good at *
  unfold dsCs at htr
  have HT := Lib.hid htr
  clear htr hok
  cases good
  · rw [if_neg (by decide)]
    go_enter Tryd.func16, Tryd.ntmps16
    go_wp2_with fail
    refine (HT.out _).mono ?_
    rintro e w1 ⟨r, rfl, hr, hx⟩
    have hr2 : ¬ r.toList = [] := by simpa using hr
    go_wp2_with fail
    go_ret2
    exact ⟨rfl, hx⟩
  · rw [if_pos rfl]
    obtain ⟨R, hR⟩ : ∃ R, R = disGo 32 [] s.data.toList := ⟨_, rfl⟩
    rw [← hR]
    have HR := Lib.hid hR
    clear hR
    go_enter Tryd.func16, Tryd.ntmps16
    go_wp2_with fail
    refine (HT.out _).mono ?_
    rintro e w1 ⟨r, rfl, hr, hx1⟩
    have hr2 : r.toList = [] := by simpa using hr
    clear hr
    have hb0 := Lib.hid (Bld.fresh w1 (w1.alloc (.cells #[.pointer none, .slice none 0 0] 68)) w1.heap.size w1.heap.size (Nat.le_refl _) (by show (w1.heap.push _)[w1.heap.size]? = _; simp))
    go_wp2_with fail
    go_loopw [5, 6, 7, 13] (fun la a c i wr => ∃ k : Nat, ∃ out : Bytes, ∃ lc : UInt8, k ≤ s.size ∧ i = .int .i64 k ∧ la = .int .u8 (lc.toNat : Int) ∧ disGo lc out (s.data.toList.drop k) = R ∧ out.length ≤ 2 * k ∧ Bld w1.heap.size w1.heap.size out wr ∧ Ext w1 wr) (fun _ _ _ i _ => s.size - (intOf i).toNat)
    case atStart => exact ⟨0, [], 32, Nat.zero_le _, rfl, rfl, HR.out.symm, Nat.zero_le _, hb0.out, (Ext.refl w1).alloc _⟩
    case round =>
      obtain ⟨k, out, lc, hk, rfl, rfl, hgo, hol, hbd, hx⟩ := hrel
      by_cases hlt : k < s.size
      · rw [drop_get s k hlt] at hgo
        have HG := Lib.hid hgo
        have HB := Lib.hid hbd
        clear hgo hbd
        generalize hc : s[k] = c at HG
        by_cases hc32 : c = 32
        · have h1 : (((s[k].toNat : Nat) : Int) != 32) = false := by rw [hc, hc32]; rfl
          have hst : Hid (disGo c out (s.data.toList.drop (k + 1)) = R) := by show _ = _; rw [← HG.out, disGo, if_pos (Or.inl hc32)]
          have HC := Lib.hid hc
          clear hc
          go_wp2_with fail
          go_roundw
          case rel => exact ⟨k + 1, out, c, by omega, by go_num, by rw [← HC.out], hst.out, by omega, HB.out, hx⟩
          case measure => simp [intOf]; omega
        · by_cases hc10 : c = 10
          · have h1 : (((s[k].toNat : Nat) : Int) != 32) = true := by rw [hc, hc10]; rfl
            have h2 : (((s[k].toNat : Nat) : Int) != 10) = false := by rw [hc, hc10]; rfl
            have hst : Hid (disGo c out (s.data.toList.drop (k + 1)) = R) := by show _ = _; rw [← HG.out, disGo, if_pos (Or.inr hc10)]
            have HC := Lib.hid hc
            clear hc
            go_wp2_with fail
            go_roundw
            case rel => exact ⟨k + 1, out, c, by omega, by go_num, by rw [← HC.out], hst.out, by omega, HB.out, hx⟩
            case measure => simp [intOf]; omega
          · have h1 : (((s[k].toNat : Nat) : Int) != 32) = true := by rw [hc]; exact u8_ne c 32 hc32
            have h2 : (((s[k].toNat : Nat) : Int) != 10) = true := by rw [hc]; exact u8_ne c 10 hc10
            have hst : Hid (disGo c ((if out ≠ [] ∧ ¬ (isDig c = true ∧ isDig lc = true) then out ++ [32] else out) ++ [c]) (s.data.toList.drop (k + 1)) = R) := by show _ = _; rw [← HG.out]; conv => rhs; rw [disGo]; rw [if_neg (by simp [hc32, hc10])]
            have hD1 := fun W => isDigit_any s[k] W
            have hD2 := fun W => isDigit_any lc W
            rw [show isDig s[k] = isDig c by rw [hc]] at hD1
            have hlen := fun W (hW : Bld w1.heap.size w1.heap.size out W) => Tryd.Builder_Len w1.heap.size w1.heap.size (byteCells out) W hW
            rw [byteCells_length] at hlen
            have L1 := Lib.hid hlen
            have HC := Lib.hid hc
            clear hlen hc32 hc10 HG hc
            by_cases ho : out = []
            · subst ho
              have hst2 : Hid (disGo c [c] (s.data.toList.drop (k + 1)) = R) := by show _ = _; rw [← hst.out]; simp
              clear hst hD1 hD2
              have hcell : Hid (Bld w1.heap.size w1.heap.size [] wr) := HB
              go_wp2_with fail
              refine (L1.out wr HB.out).mono ?_
              rintro e w2 ⟨rfl, rfl⟩
              go_wp2_with fail
              refine (bld_byte w1.heap.size w1.heap.size [] s[k] _ HB.out (by simp) hx.size).mono ?_
              rintro e w3 ⟨rfl, hb3, hlo, hk3⟩
              have hx3 : Ext w1 w3 := Below.trans hx hlo
              have HB3 := Lib.hid hb3
              clear hb3
              go_wp2_with fail
              go_roundw
              case rel => exact ⟨k + 1, [c], c, by omega, by go_num, by rw [← HC.out], hst2.out, by simp; omega, by rw [← HC.out]; exact HB3.out, hx3⟩
              case measure => simp [intOf]; omega
            · have hpos : 0 < out.length := by cases out with | nil => exact absurd rfl ho | cons _ _ => simp
              cases hd1 : isDig c with
              | false =>
                rw [hd1] at hD1
                have hst2 : Hid (disGo c (out ++ [32] ++ [c]) (s.data.toList.drop (k + 1)) = R) := by show _ = _; rw [← hst.out, if_pos ⟨ho, by rw [hd1]; simp⟩]
                have D1 := Lib.hid hD1
                clear hst hD1 hD2 ho hd1
                go_wp2_with fail
                refine (L1.out wr HB.out).mono ?_
                rintro e w2 ⟨rfl, rfl⟩
                go_wp2_with fail
                refine (D1.out _).mono ?_
                rintro e w2b ⟨rfl, rfl⟩
                go_wp2_with fail
                refine (bld_byte w1.heap.size w1.heap.size out 32 _ HB.out (by omega) hx.size).mono ?_
                rintro e w3 ⟨rfl, hb3, hlo, hk3⟩
                have hx3 : Ext w1 w3 := Below.trans hx hlo
                have HB3 := Lib.hid hb3
                clear hb3
                go_wp2_with fail
                refine (bld_byte w1.heap.size w1.heap.size (out ++ [32]) s[k] _ HB3.out (by simp; omega) hx3.size).mono ?_
                rintro e w4 ⟨rfl, hb4, hlo4, hk4⟩
                have hx4 : Ext w1 w4 := Below.trans hx3 hlo4
                have HB4 := Lib.hid hb4
                clear hb4
                go_wp2_with fail
                go_roundw
                case rel => exact ⟨k + 1, _, c, by omega, by go_num, by rw [← HC.out], hst2.out, by simp; omega, by rw [← HC.out]; exact HB4.out, hx4⟩
                case measure => simp [intOf]; omega
              | true =>
                rw [hd1] at hD1
                cases hd2 : isDig lc with
                | false =>
                  rw [hd2] at hD2
                  have hst2 : Hid (disGo c (out ++ [32] ++ [c]) (s.data.toList.drop (k + 1)) = R) := by show _ = _; rw [← hst.out, if_pos ⟨ho, by rw [hd2]; simp⟩]
                  have D1 := Lib.hid hD1
                  have D2 := Lib.hid hD2
                  clear hst hD1 hD2 ho hd1 hd2
                  go_wp2_with fail
                  refine (L1.out wr HB.out).mono ?_
                  rintro e w2 ⟨rfl, rfl⟩
                  go_wp2_with fail
                  refine (D1.out _).mono ?_
                  rintro e w2b ⟨rfl, rfl⟩
                  go_wp2_with fail
                  refine (D2.out _).mono ?_
                  rintro e w2b ⟨rfl, rfl⟩
                  go_wp2_with fail
                  refine (bld_byte w1.heap.size w1.heap.size out 32 _ HB.out (by omega) hx.size).mono ?_
                  rintro e w3 ⟨rfl, hb3, hlo, hk3⟩
                  have hx3 : Ext w1 w3 := Below.trans hx hlo
                  have HB3 := Lib.hid hb3
                  clear hb3
                  go_wp2_with fail
                  refine (bld_byte w1.heap.size w1.heap.size (out ++ [32]) s[k] _ HB3.out (by simp; omega) hx3.size).mono ?_
                  rintro e w4 ⟨rfl, hb4, hlo4, hk4⟩
                  have hx4 : Ext w1 w4 := Below.trans hx3 hlo4
                  have HB4 := Lib.hid hb4
                  clear hb4
                  go_wp2_with fail
                  go_roundw
                  case rel => exact ⟨k + 1, _, c, by omega, by go_num, by rw [← HC.out], hst2.out, by simp; omega, by rw [← HC.out]; exact HB4.out, hx4⟩
                  case measure => simp [intOf]; omega
                | true =>
                  rw [hd2] at hD2
                  have hst2 : Hid (disGo c (out ++ [c]) (s.data.toList.drop (k + 1)) = R) := by show _ = _; rw [← hst.out, if_neg (by rw [hd1, hd2]; simp)]
                  have D1 := Lib.hid hD1
                  have D2 := Lib.hid hD2
                  clear hst hD1 hD2 ho hd1 hd2
                  go_wp2_with fail
                  refine (L1.out wr HB.out).mono ?_
                  rintro e w2 ⟨rfl, rfl⟩
                  go_wp2_with fail
                  refine (D1.out _).mono ?_
                  rintro e w2b ⟨rfl, rfl⟩
                  go_wp2_with fail
                  refine (D2.out _).mono ?_
                  rintro e w2b ⟨rfl, rfl⟩
                  go_wp2_with fail
                  refine (bld_byte w1.heap.size w1.heap.size out s[k] _ HB.out (by omega) hx.size).mono ?_
                  rintro e w3 ⟨rfl, hb3, hlo, hk3⟩
                  have hx3 : Ext w1 w3 := Below.trans hx hlo
                  have HB3 := Lib.hid hb3
                  clear hb3
                  go_wp2_with fail
                  go_roundw
                  case rel => exact ⟨k + 1, _, c, by omega, by go_num, by rw [← HC.out], hst2.out, by simp; omega, by rw [← HC.out]; exact HB3.out, hx3⟩
                  case measure => simp [intOf]; omega
      · obtain rfl : k = s.size := by omega
        have hfin : Hid (R = out) := by
          show _ = _
          rw [← hgo, List.drop_of_length_le (by exact Nat.le_refl _)]
          rfl
        go_wp2_with fail
        refine (bld_string w1.heap.size w1.heap.size out wr hbd hx.size).mono ?_
        rintro e w2 ⟨rfl, hlo, hk2⟩
        go_wp2_with fail
        go_ret2
        exact ⟨by rw [hfin.out]; rfl, hx1.trans (Below.trans hx hlo)⟩
end Go.Proofs.YtimegcnpembhkaaDoor
