/- Contracts: Split of the library and of the reference. (Layer 26) -/
import Derived.Test.YtjmglbppmolipaaGreatDoorPfEnc
import Derived.WalkSpells
import Derived.IntWalk
namespace Go.Proofs.YtjmglbppmolipaaGreatDoor
open Go.RowKit
open Go.Lib hiding intOf
set_option linter.unusedVariables false

def totalN (n : Nat) : Nat := (n + 63) / 64
/-- a text filled up with spaces -/
def fullB (s : ByteArray) : ByteArray := s ++ BA (List.replicate (totalN s.size * 64 - s.size) 32)
def pieceP (s : ByteArray) (arch i : Nat) : Pc := ⟨arch, (i : Int), (totalN s.size : Int), (fullB s).extract (i * 64) ((i + 1) * 64)⟩
def piecesP (s : ByteArray) (arch : Nat) : List Pc := (List.range (totalN s.size)).map (pieceP s arch)
def splitA (s : ByteArray) (arch : Nat) : List Pc × Int := if 40000 < s.size then ([], 6) else if prB s.data.toList = false then ([], 3) else (piecesP s arch, 0)
def cellsP (l : List Pc) : List Value := l.flatMap Pc.cells
theorem cellsP_snoc (l : List Pc) (p : Pc) : cellsP (l ++ [p]) = cellsP l ++ [.int .u32 p.arch, .int .i64 p.index, .int .i64 p.total, .string p.text] := by simp [cellsP, Pc.cells]
/-- an answer of pieces in new memory -/
def PcPost (w : World) (l : List Pc) (E : Int) (e : Ending) (w' : World) : Prop :=
  ∃ v, e = .returned (.tuple #[v, .int .i64 E]) ∧ w'.ownsRow w.heap.size 57 4 v l.length (cellsP l) ∧ Ext w w'
theorem full_size (s : ByteArray) : (fullB s).size = totalN s.size * 64 := by
  unfold fullB
  rw [ByteArray.size_append, BA_size, List.length_replicate]
  unfold totalN
  omega
theorem pieces_take (s : ByteArray) (arch i : Nat) (h : i < totalN s.size) : (piecesP s arch).take (i + 1) = (piecesP s arch).take i ++ [pieceP s arch i] := by
  unfold piecesP
  rw [List.take_succ_eq_append_getElem (by simpa using h)]
  simp
theorem pieces_len (s : ByteArray) (arch : Nat) : (piecesP s arch).length = totalN s.size := by simp [piecesP]
theorem plainInfo : (Tryz.prog.info? 57).map (fun i => (i.zero, i.size, i.bytes)) = some (some (.agg #[.int .u32 0, .int .i64 0, .int .i64 0, .string ⟨#[]⟩]), 4, 40) := by kernel_rfl

set_option maxRecDepth 100000 in
set_option maxHeartbeats 3200000 in
theorem split_any' (s : ByteArray) (arch : Nat) (w : World) (hs : s.size ≤ maxLen) :
    Calls Tryz.prog 26 #[.string s, .int .u32 arch] w (PcPost w (splitA s arch).1 (splitA s arch).2) := by
  have hP := fun W => printable_any s W hs
  unfold maxLen at hs
  unfold splitA
  by_cases h1 : 40000 < s.size
  · rw [if_pos h1]
    clear hP
    go_enter Tryz.func26, Tryz.ntmps26
    go_wp2_with fail
    refine bodyPost_ret (v := .tuple #[.slice none 0 0, .int .i64 6]) (by simp [results, Tryz.results26, go_sem]) rfl ⟨_, rfl, World.ownsRow_nil _ _ _ _, Ext.refl _⟩
  rw [if_neg h1]
  by_cases h2 : prB s.data.toList = false
  · rw [if_pos h2]
    rw [h2] at hP
    have HP := Lib.hid hP
    clear hP h2
    go_enter Tryz.func26, Tryz.ntmps26
    go_wp2_with fail
    refine (HP.out _).mono ?_
    rintro e w1 ⟨rfl, rfl⟩
    go_wp2_with fail
    refine bodyPost_ret (v := .tuple #[.slice none 0 0, .int .i64 3]) (by simp [results, Tryz.results26, go_sem]) rfl ⟨_, rfl, World.ownsRow_nil _ _ _ _, Ext.refl _⟩
  rw [if_neg h2]
  rw [Bool.not_eq_false] at h2
  rw [h2] at hP
  have HP := Lib.hid hP
  clear hP h2
  obtain ⟨T, hT⟩ : ∃ T, T = totalN s.size := ⟨_, rfl⟩
  have hT' := hT
  unfold totalN at hT'
  obtain ⟨pd, hpd⟩ : ∃ pd, pd = T * 64 - s.size := ⟨_, rfl⟩
  have e1 : ((s.size : Int) + 64 - 1) / 64 = (T : Int) := by omega
  have e2 : (T : Int) * 64 - (s.size : Int) = (pd : Int) := by omega
  have hT625 : T ≤ 626 := by omega
  have hpd64 : pd ≤ 64 := by omega
  have hF := full_size s
  have hF2 : fullB s = s ++ BA (List.replicate pd 32) := by unfold fullB; rw [hpd, hT]
  have hR := fun W => repeat_one 32 pd W (by omega)
  have hRz : (BA (List.replicate pd 32)).size = pd := by rw [BA_size, List.length_replicate]
  rw [← hT] at hF
  have hpt := fun i (h : i < T) => pieces_take s arch i (hT ▸ h)
  have hpv : ∀ i, pieceP s arch i = ⟨arch, (i : Int), (T : Int), (fullB s).extract (i * 64) ((i + 1) * 64)⟩ := fun i => by unfold pieceP; rw [← hT]
  have hpl := pieces_len s arch
  rw [← hT] at hpl
  generalize piecesP s arch = L at *
  generalize fullB s = F at *
  generalize BA (List.replicate pd 32) = R at *
  have HF2 := Lib.hid hF2
  have HR := Lib.hid hR
  have HPT := Lib.hid hpt
  have HPV := Lib.hid hpv
  have HPL := Lib.hid hpl
  clear hF2 hR hpt hpv hpl hT hT' hpd
  obtain ⟨i0, hi0, hz0, hz1, hz2⟩ := info_parts plainInfo
  go_enter Tryz.func26, Tryz.ntmps26
  go_wp2_with fail
  refine (HP.out _).mono ?_
  rintro e w1 ⟨rfl, rfl⟩
  go_wp2_with fail
  refine (HR.out _).mono ?_
  rintro e w1 ⟨rfl, hx1⟩
  go_wp2_with fail
  rw [← HF2.out]
  go_loopw [7, 31] (fun ov iv wr => ∃ i : Nat, iv = .int .i64 i ∧ i ≤ T ∧ wr.ownsRow w.heap.size 57 4 ov i (cellsP (L.take i)) ∧ Ext w wr) (fun _ iv _ => T - (intOf iv).toNat)
  case atStart => exact ⟨0, rfl, Nat.zero_le _, World.ownsRow_nil _ _ _ _, hx1⟩
  case round =>
    obtain ⟨i, rfl, hi, hown, hx⟩ := hrel
    have HO := Lib.hid hown
    clear hown
    by_cases hlt : i < T
    · obtain ⟨A0, hA0⟩ : ∃ A0, A0 = i * 64 := ⟨_, rfl⟩
      obtain ⟨A1, hA1⟩ : ∃ A1, A1 = (i + 1) * 64 := ⟨_, rfl⟩
      have f1 : (i : Int) * 64 = (A0 : Int) := by omega
      have f2 : ((i : Int) + 1) * 64 = (A1 : Int) := by omega
      have hA1F : A1 ≤ F.size := by omega
      have hA01 : A0 ≤ A1 := by omega
      have hst : Hid (cellsP (L.take (i + 1)) = cellsP (L.take i) ++ [.int .u32 arch, .int .i64 i, .int .i64 T, .string (F.extract A0 A1)]) := by
        show _ = _
        rw [HPT.out i hlt, cellsP_snoc, HPV.out, hA0, hA1]
      have hFz : F.size ≤ 41000 := by omega
      clear hA0 hA1
      have hi := hi0
      go_wp2_with (at_builtin; refine wpList_append_own _ rfl (.tmp 34) (.tmp 46) _ rfl w.heap.size 57 i0 _ 4 40 Tryz.underlying42 hi hz0 hz1 hz2 rfl (by omega) _ _ _ rfl (HO.out.alloc _) ⟨wr.heap.size, 0, none⟩ 1 1 [.int .u32 arch, .int .i64 i, .int .i64 T, .string (F.extract A0 A1)] rfl rfl ?c1 ?c2 ?c3 ?c4 ?c5 ?_)
      case c1 =>
        intro j u hu
        match j, hu with
        | 0, hu => simp at hu; subst hu; go_cell
        | 1, hu => simp at hu; subst hu; simp [Addr.add]
        | 2, hu => simp at hu; subst hu; simp [Addr.add]
        | 3, hu => simp at hu; subst hu; simp [Addr.add]
      case c2 =>
        intro u hu
        simp at hu
        rcases hu with rfl | rfl | rfl | rfl <;> rfl
      case c3 => unfold maxLen; omega
      case c4 => omega
      case c5 => (have hc5 := hx.size; try simp at hc5); simp; omega
      intro v' w2 hown2 hgr _
      have hx3 := (hx.alloc (.cells #[.int .u32 arch, .int .i64 i, .int .i64 T, .string (F.extract A0 A1)] 57)).grown hgr (fun k hk => (HO.out.lt k hk).1)
      have HO2 := Lib.hid hown2
      have HG := Lib.hid hgr
      clear hown2 hgr
      go_wp2_with fail
      go_roundw
      case rel => exact ⟨i + 1, by go_num, by omega, by rw [hst.out]; exact HO2.out, hx3⟩
      case measure => simp [intOf]; omega
    · obtain rfl : i = T := by omega
      have hfull : Hid (L.take i = L) := List.take_of_length_le (by rw [HPL.out]; exact Nat.le_refl _)
      rw [hfull.out] at HO
      go_wp2_with fail
      refine bodyPost_ret (v := .tuple #[u7, .int .i64 0]) (by simp [results, Tryz.results26, go_sem]) rfl ⟨_, rfl, ?_, hx⟩
      rw [HPL.out]
      exact HO.out

/-- the reference's part of a text: at most 64 bytes from place a on -/
def partQ (s : ByteArray) (a : Nat) : ByteArray := if 64 < (s.extract a s.size).size then (s.extract a s.size).extract 0 64 else s.extract a s.size
theorem app_data (a : ByteArray) (x : List UInt8) : (a ++ BA x).data.toList = a.data.toList ++ x := by simp [BA]
theorem ext_end (s : ByteArray) (a : Nat) : (s.extract a s.size).data.toList = s.data.toList.drop a := by
  rw [ext_BA, BA_data, List.take_of_length_le (by rw [List.length_drop]; exact Nat.le_refl _)]
theorem part_eq (s : ByteArray) (i : Nat) (h : i < totalN s.size) : (partQ s (i * 64)).size ≤ 64 ∧ partQ s (i * 64) ++ BA (List.replicate (64 - (partQ s (i * 64)).size) 32) = (fullB s).extract (i * 64) ((i + 1) * 64) := by
  unfold totalN at h
  have hle : i * 64 ≤ s.data.toList.length := by show i * 64 ≤ s.size; omega
  have hz : (s.extract (i * 64) s.size).size = s.size - i * 64 := by rw [ByteArray.size_extract, Nat.min_self]
  have hR : ((fullB s).extract (i * 64) ((i + 1) * 64)) = BA ((s.data.toList.drop (i * 64) ++ List.replicate (totalN s.size * 64 - s.size) 32).take 64) := by
    rw [ext_BA]
    unfold fullB
    rw [app_data, List.drop_append_of_le_length hle, show (i + 1) * 64 - i * 64 = 64 by omega]
  have hdl : (s.data.toList.drop (i * 64)).length = s.size - i * 64 := List.length_drop ..
  rw [hR]
  unfold partQ
  by_cases h1 : 64 < (s.extract (i * 64) s.size).size
  · rw [if_pos h1]
    have h2 : ((s.extract (i * 64) s.size).extract 0 64).size = 64 := by rw [ByteArray.size_extract]; omega
    refine ⟨Nat.le_of_eq h2, ?_⟩
    rw [h2]
    apply bytes_inj
    rw [app_data, BA_data, ext_BA, BA_data, ext_end, List.take_append_of_le_length (by omega)]
    simp
  · rw [if_neg h1]
    refine ⟨by omega, ?_⟩
    apply bytes_inj
    rw [app_data, BA_data, ext_end, hz]
    have e : totalN s.size * 64 - s.size = 64 - (s.size - i * 64) := by unfold totalN; omega
    rw [e, List.take_of_length_le (by rw [List.length_append, List.length_replicate, hdl]; omega)]

set_option maxRecDepth 100000 in
set_option maxHeartbeats 3200000 in
theorem rsplit_any (s : ByteArray) (arch : Nat) (w : World) (hs : s.size ≤ maxLen) :
    Calls Tryz.prog 35 #[.string s, .int .u32 arch] w (PcPost w (splitA s arch).1 (splitA s arch).2) := by
  have hP := fun W => rprintable_any s W hs
  unfold maxLen at hs
  unfold splitA
  by_cases h1 : 40000 < s.size
  · rw [if_pos h1]
    clear hP
    go_enter Tryz.func35, Tryz.ntmps35
    go_wp2_with fail
    refine bodyPost_ret (v := .tuple #[.slice (some ⟨w.heap.size, 0, none⟩) 0 0, .int .i64 6]) (by simp [results, Tryz.results35, go_sem]) rfl ⟨_, rfl, own_empty w _ _ _ (Nat.le_refl _), (Ext.refl _).alloc _⟩
  rw [if_neg h1]
  by_cases h2 : prB s.data.toList = false
  · rw [if_pos h2]
    rw [h2] at hP
    have HP := Lib.hid hP
    clear hP h2
    go_enter Tryz.func35, Tryz.ntmps35
    go_wp2_with fail
    refine (HP.out _).mono ?_
    rintro e w1 ⟨rfl, rfl⟩
    go_wp2_with fail
    refine bodyPost_ret (v := .tuple #[.slice (some ⟨w.heap.size, 0, none⟩) 0 0, .int .i64 3]) (by simp [results, Tryz.results35, go_sem]) rfl ⟨_, rfl, own_empty w _ _ _ (Nat.le_refl _), (Ext.refl _).alloc _⟩
  rw [if_neg h2]
  rw [Bool.not_eq_false] at h2
  rw [h2] at hP
  have HP := Lib.hid hP
  clear hP h2
  obtain ⟨T, hT⟩ : ∃ T, T = totalN s.size := ⟨_, rfl⟩
  have hT' := hT
  unfold totalN at hT'
  have e1 : ((s.size : Int) + 63) / 64 = (T : Int) := by omega
  have hT625 : T ≤ 626 := by omega
  have hTs : T * 64 ≤ s.size + 63 := by omega
  have hpt := fun i (h : i < T) => pieces_take s arch i (hT ▸ h)
  have hpq := fun i (h : i < T) => part_eq s i (hT ▸ h)
  have hpv : ∀ i, pieceP s arch i = ⟨arch, (i : Int), (T : Int), (fullB s).extract (i * 64) ((i + 1) * 64)⟩ := fun i => by unfold pieceP; rw [← hT]
  have hpl := pieces_len s arch
  rw [← hT] at hpl
  generalize piecesP s arch = L at *
  generalize fullB s = F at *
  have HPT := Lib.hid hpt
  have HPQ := Lib.hid hpq
  have HPV := Lib.hid hpv
  have HPL := Lib.hid hpl
  clear hpt hpv hpl hpq hT hT'
  obtain ⟨i0, hi0, hz0, hz1, hz2⟩ := info_parts plainInfo
  go_enter Tryz.func35, Tryz.ntmps35
  go_wp2_with fail
  refine (HP.out _).mono ?_
  rintro e w1 ⟨rfl, rfl⟩
  go_wp2_with fail
  simp only [e1]
  go_loopw [6, 8] (fun ov iv wr => ∃ i : Nat, iv = .int .i64 i ∧ i ≤ T ∧ wr.ownsRow w.heap.size 57 4 ov i (cellsP (L.take i)) ∧ Ext w wr) (fun _ iv _ => T - (intOf iv).toNat)
  case atStart => exact ⟨0, rfl, Nat.zero_le _, own_empty w _ _ _ (Nat.le_refl _), (Ext.refl _).alloc _⟩
  case round =>
    obtain ⟨i, rfl, hi, hown, hx⟩ := hrel
    have HO := Lib.hid hown
    clear hown
    by_cases hlt : i < T
    · obtain ⟨hq1, hq2⟩ := HPQ.out i hlt
      have hst : Hid (cellsP (L.take (i + 1)) = cellsP (L.take i) ++ [.int .u32 arch, .int .i64 i, .int .i64 T, .string (F.extract (i * 64) ((i + 1) * 64))]) := by
        show _ = _
        rw [HPT.out i hlt, cellsP_snoc, HPV.out]
      rw [← hq2] at hst
      clear hq2
      obtain ⟨A0, hA0⟩ : ∃ A0, A0 = i * 64 := ⟨_, rfl⟩
      rw [← hA0] at hst hq1
      have f1 : 64 * (i : Int) = (A0 : Int) := by omega
      have hA0s : A0 ≤ s.size := by omega
      clear hA0
      have hz : (s.extract A0 s.size).size = s.size - A0 := by rw [ByteArray.size_extract, Nat.min_self]
      by_cases h64 : 64 < (s.extract A0 s.size).size
      · have hQ : partQ s A0 = (s.extract A0 s.size).extract 0 64 := by unfold partQ; rw [if_pos h64]
        have h64' : (64 : Int) < ((s.size - A0 : Nat) : Int) := by omega
        go_wp2_with fail
        rw [← hQ]
        clear hQ h64 h64' hz
        generalize partQ s A0 = Q at *
        have hZ : Hid (∀ m, (Q ++ BA (List.replicate m 32)).size = Q.size + m) := fun m => by rw [ByteArray.size_append, BA_size, List.length_replicate]
        have hS : Hid (∀ m, Q ++ BA (List.replicate m 32) ++ BA [32] = Q ++ BA (List.replicate (m + 1) 32)) := fun m => by
          apply bytes_inj
          rw [app_data, app_data, app_data, List.append_assoc, List.replicate_succ']
        go_loopw [9] (fun rv wr' => ∃ m : Nat, rv = .string (Q ++ BA (List.replicate m 32)) ∧ Q.size + m ≤ 64 ∧ wr'.ownsRow w.heap.size 57 4 u6 i (cellsP (L.take i)) ∧ Ext w wr') (fun rv _ => match rv with | .string x => 64 - x.size | _ => 0)
        case atStart => exact ⟨0, by rw [List.replicate_zero, show BA [] = ByteArray.empty from rfl, ByteArray.append_empty], hq1, HO.out, hx⟩
        case round =>
          obtain ⟨m, rfl, hm, hown, hx⟩ := hrel
          have HO := Lib.hid hown
          clear hown
          have hz1' := hZ.out m
          have hS1 := Lib.hid (hS.out m)
          have hz2' := Lib.hid (hZ.out (m + 1))
          by_cases hl : Q.size + m < 64
          · generalize Q ++ BA (List.replicate m 32) = Y at *
            go_wp2_with fail
            go_roundw
            case rel => exact ⟨m + 1, by rw [← hS1.out]; rfl, by omega, HO.out, hx⟩
            case measure =>
              show 64 - (Y ++ BA [32]).size < 64 - Y.size
              rw [hS1.out, hz2'.out, hz1']
              omega
          · have hm2 : m = 64 - Q.size := by omega
            rw [← hm2] at hst
            clear hm2 hZ hS hS1 hz2'
            generalize Q ++ BA (List.replicate m 32) = Y at *
            have hi := hi0
            go_wp2_with (at_builtin; refine wpList_append_own _ rfl (.tmp 42) (.tmp 48) _ rfl w.heap.size 57 i0 _ 4 40 Tryz.underlying42 hi hz0 hz1 hz2 rfl (by omega) _ _ _ rfl (HO.out.alloc _) ⟨wr.heap.size, 0, none⟩ 1 1 [.int .u32 arch, .int .i64 i, .int .i64 T, .string Y] rfl rfl ?c1 ?c2 ?c3 ?c4 ?c5 ?_)
            case c1 =>
              intro j u hu
              match j, hu with
              | 0, hu => simp at hu; subst hu; go_cell
              | 1, hu => simp at hu; subst hu; simp [Addr.add]
              | 2, hu => simp at hu; subst hu; simp [Addr.add]
              | 3, hu => simp at hu; subst hu; simp [Addr.add]
            case c2 =>
              intro u hu
              simp at hu
              rcases hu with rfl | rfl | rfl | rfl <;> rfl
            case c3 => unfold maxLen; omega
            case c4 => omega
            case c5 => (have hc5 := hx.size; try simp at hc5); simp; omega
            intro v' w2 hown2 hgr _
            have hx3 := (hx.alloc (.cells #[.int .u32 arch, .int .i64 i, .int .i64 T, .string Y] 57)).grown hgr (fun k hk => (HO.out.lt k hk).1)
            have HO2 := Lib.hid hown2
            have HG := Lib.hid hgr
            clear hown2 hgr
            go_wp2_with fail
            go_roundw
            case rel => exact ⟨i + 1, by go_num, by omega, by rw [hst.out]; exact HO2.out, hx3⟩
            case measure => simp [intOf]; omega
      · have hQ : partQ s A0 = s.extract A0 s.size := by unfold partQ; rw [if_neg h64]
        have h64' : ((s.size - A0 : Nat) : Int) ≤ 64 := by omega
        go_wp2_with fail
        rw [← hQ]
        clear hQ h64 h64' hz
        generalize partQ s A0 = Q at *
        have hZ : Hid (∀ m, (Q ++ BA (List.replicate m 32)).size = Q.size + m) := fun m => by rw [ByteArray.size_append, BA_size, List.length_replicate]
        have hS : Hid (∀ m, Q ++ BA (List.replicate m 32) ++ BA [32] = Q ++ BA (List.replicate (m + 1) 32)) := fun m => by
          apply bytes_inj
          rw [app_data, app_data, app_data, List.append_assoc, List.replicate_succ']
        go_loopw [9] (fun rv wr' => ∃ m : Nat, rv = .string (Q ++ BA (List.replicate m 32)) ∧ Q.size + m ≤ 64 ∧ wr'.ownsRow w.heap.size 57 4 u6 i (cellsP (L.take i)) ∧ Ext w wr') (fun rv _ => match rv with | .string x => 64 - x.size | _ => 0)
        case atStart => exact ⟨0, by rw [List.replicate_zero, show BA [] = ByteArray.empty from rfl, ByteArray.append_empty], hq1, HO.out, hx⟩
        case round =>
          obtain ⟨m, rfl, hm, hown, hx⟩ := hrel
          have HO := Lib.hid hown
          clear hown
          have hz1' := hZ.out m
          have hS1 := Lib.hid (hS.out m)
          have hz2' := Lib.hid (hZ.out (m + 1))
          by_cases hl : Q.size + m < 64
          · generalize Q ++ BA (List.replicate m 32) = Y at *
            go_wp2_with fail
            go_roundw
            case rel => exact ⟨m + 1, by rw [← hS1.out]; rfl, by omega, HO.out, hx⟩
            case measure =>
              show 64 - (Y ++ BA [32]).size < 64 - Y.size
              rw [hS1.out, hz2'.out, hz1']
              omega
          · have hm2 : m = 64 - Q.size := by omega
            rw [← hm2] at hst
            clear hm2 hZ hS hS1 hz2'
            generalize Q ++ BA (List.replicate m 32) = Y at *
            have hi := hi0
            go_wp2_with (at_builtin; refine wpList_append_own _ rfl (.tmp 42) (.tmp 48) _ rfl w.heap.size 57 i0 _ 4 40 Tryz.underlying42 hi hz0 hz1 hz2 rfl (by omega) _ _ _ rfl (HO.out.alloc _) ⟨wr.heap.size, 0, none⟩ 1 1 [.int .u32 arch, .int .i64 i, .int .i64 T, .string Y] rfl rfl ?c1 ?c2 ?c3 ?c4 ?c5 ?_)
            case c1 =>
              intro j u hu
              match j, hu with
              | 0, hu => simp at hu; subst hu; go_cell
              | 1, hu => simp at hu; subst hu; simp [Addr.add]
              | 2, hu => simp at hu; subst hu; simp [Addr.add]
              | 3, hu => simp at hu; subst hu; simp [Addr.add]
            case c2 =>
              intro u hu
              simp at hu
              rcases hu with rfl | rfl | rfl | rfl <;> rfl
            case c3 => unfold maxLen; omega
            case c4 => omega
            case c5 => (have hc5 := hx.size; try simp at hc5); simp; omega
            intro v' w2 hown2 hgr _
            have hx3 := (hx.alloc (.cells #[.int .u32 arch, .int .i64 i, .int .i64 T, .string Y] 57)).grown hgr (fun k hk => (HO.out.lt k hk).1)
            have HO2 := Lib.hid hown2
            have HG := Lib.hid hgr
            clear hown2 hgr
            go_wp2_with fail
            go_roundw
            case rel => exact ⟨i + 1, by go_num, by omega, by rw [hst.out]; exact HO2.out, hx3⟩
            case measure => simp [intOf]; omega
    · obtain rfl : i = T := by omega
      have hfull : Hid (L.take i = L) := List.take_of_length_le (by rw [HPL.out]; exact Nat.le_refl _)
      rw [hfull.out] at HO
      go_wp2_with fail
      refine bodyPost_ret (v := .tuple #[u6, .int .i64 0]) (by simp [results, Tryz.results35, go_sem]) rfl ⟨_, rfl, ?_, hx⟩
      rw [HPL.out]
      exact HO.out
end Go.Proofs.YtjmglbppmolipaaGreatDoor
