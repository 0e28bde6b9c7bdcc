/- The law LoaderLoads returns true; the laws' own frames. (Layer 27) -/
import Derived.Test.YtlkiaeelnbjchaaGreatDoorLdLaws
import Derived.Test.YtlkiaeelnbjchaaGreatDoorLdLoad2
import Derived.Test.YtlkiaeelnbjchaaGreatDoorLdRLoad
import Derived.Test.YtlkiaeelnbjchaaGreatDoorLdPlain
namespace Go.Proofs.YtlkiaeelnbjchaaGreatDoor
open Go.RowKit
open Go.Lib hiding intOf
set_option linter.unusedVariables false

set_option maxRecDepth 100000 in
set_option maxHeartbeats 1600000 in
theorem lawLoads_any (A : Option Addr) (n cap arch : Nat) (rows : List ByteArray) (w : World) (ha : arch < 4294967296) (hl : Lst w A n cap (rows.map Value.string)) (hz : ∀ s ∈ rows, s.size ≤ maxLen) (hE : Env w) :
    Calls Tryz.prog 3 #[.slice A n cap, .int .u32 arch] w fun e w' => e = .returned (.bool true) ∧ Ext w w' := by
  have HW := Lib.hid (fun W (h : Env W) => awake7_any W h)
  have HG := Lib.hid (great_any A n cap rows w hl hz)
  go_enter Tryz.func3, Tryz.ntmps3
  go_wp2_with fail
  refine HG.out.mono ?_
  rintro e w1 ⟨z, rfl, hzz, rfl⟩
  rcases hzz with rfl | ⟨rfl, ht⟩
  · go_wp2_with fail
    refine (HW.out _ hE).mono ?_
    rintro e w1 ⟨rfl, hx⟩
    go_wp2_with fail
    go_ret
    exact ⟨rfl, hx⟩
  have hsm : ∀ s ∈ rows, s.size ≤ 1000000000 := fun s hs => by have := tot_mem hs; omega
  have hfl := framesL_len rows arch
  have HP := Lib.hid (load_any A n cap arch rows w hE ha hl hsm (by omega))
  have HR := Lib.hid (fun W (hx : Ext w W) => rload_any A n cap arch rows W ha (hl.ext hx) hsm (by omega) (framesL_sizes rows arch))
  generalize loadA (framesL rows arch) = R at *
  obtain ⟨S0, M, Z⟩ := R
  simp only at HP HR
  generalize BA S0 = S at *
  have hss : (S.toList == S.toList) = true := beq_self_eq_true _
  have hZZ : (Z == Z) = true := beq_self_eq_true _
  clear HG hl hz hsm ht hfl
  go_wp2_with fail
  refine HP.out.mono ?_
  rintro e w1 ⟨v1, rfl, ho1, hx1⟩
  obtain ⟨A1, c1, rfl, hl1⟩ := Lst.of_own ho1
  have HL1 := Lib.hid hl1
  clear ho1 hl1
  go_wp2_with fail
  refine (HR.out _ hx1).mono ?_
  rintro e w2 ⟨v2, rfl, ho2, hx2⟩
  obtain ⟨A2, c2, rfl, hl2⟩ := Lst.of_own ho2
  have HS := Lib.hid (rsameInts_any A1 A2 M.length c1 c2 M w2 (HL1.out.ext hx2) hl2)
  have hx02 := hx1.trans hx2
  clear ho2 hl2
  go_wp2_with fail
  refine HS.out.mono ?_
  rintro e w3 ⟨rfl, hx3⟩
  have hx03 := hx02.trans hx3
  go_wp2_with fail
  refine (HW.out _ (hE.ext hx03)).mono ?_
  rintro e w4 ⟨rfl, hx4⟩
  go_wp2_with fail
  go_ret
  exact ⟨rfl, hx03.trans hx4⟩

theorem piece_cells (s : ByteArray) (arch i : Nat) (h : i < (piecesP s arch).length) : (piecesP s arch)[i] = pieceP s arch i := by
  have h' : (piecesP s arch)[i]? = some (pieceP s arch i) := by
    unfold piecesP
    rw [List.getElem?_map, List.getElem?_range (by rw [pieces_len] at h; exact h)]
    rfl
  rw [List.getElem?_eq_getElem h] at h'
  exact Option.some.inj h'
def frowsP (s : ByteArray) (arch : Nat) : List ByteArray := (piecesP s arch).map fun p => BA (encL p)
theorem frows_len (s : ByteArray) (arch : Nat) : (frowsP s arch).length = totalN s.size := by unfold frowsP; rw [List.length_map, pieces_len]
theorem frows_get? (s : ByteArray) (arch i : Nat) (h : i < totalN s.size) : (frowsP s arch)[i]? = some (BA (encL (pieceP s arch i))) := by
  have h2 : i < (piecesP s arch).length := by rw [pieces_len]; exact h
  unfold frowsP
  rw [List.getElem?_map, List.getElem?_eq_getElem h2, piece_cells]
  rfl
theorem frows_get (s : ByteArray) (arch i : Nat) (h : i < (frowsP s arch).length) : (frowsP s arch)[i] = BA (encL (pieceP s arch i)) := by
  have h' := frows_get? s arch i (by rw [← frows_len s arch]; exact h)
  rw [List.getElem?_eq_getElem h] at h'
  exact Option.some.inj h'
/-- the first rows, as values -/
def frV (s : ByteArray) (arch i : Nat) : List Value := ((frowsP s arch).take i).map Value.string
theorem frV_zero (s : ByteArray) (arch : Nat) : frV s arch 0 = [] := by unfold frV; simp
theorem frV_full (s : ByteArray) (arch : Nat) : frV s arch (totalN s.size) = (frowsP s arch).map Value.string := by
  unfold frV
  rw [List.take_of_length_le (by rw [frows_len]; exact Nat.le_refl _)]
theorem frV_succ (s : ByteArray) (arch i : Nat) (h : i < totalN s.size) : frV s arch (i + 1) = frV s arch i ++ [.string (BA (encL (pieceP s arch i)))] := by
  unfold frV
  rw [List.take_succ_eq_append_getElem (by rw [frows_len]; exact h), List.map_append, frows_get]; rfl
theorem strInfo27 : (Tryz.prog.info? 9).map (fun i => (i.zero, i.size, i.bytes)) = some (some (.string ⟨#[]⟩), 1, 16) := by kernel_rfl

set_option maxRecDepth 100000 in
set_option maxHeartbeats 1600000 in
theorem lframes_any (s : ByteArray) (arch : Nat) (w : World) (hs : s.size ≤ maxLen) (ha : arch < 4294967296) (hE : Env w) :
    Calls Tryz.prog 22 #[.string s, .int .u32 arch] w fun e w' => ∃ v b, e = .returned (.tuple #[v, .bool b]) ∧ Ext w w' ∧ (b = true → s.size ≤ 300 ∧ prB s.data.toList = true ∧ 1 ≤ totalN s.size ∧ w'.ownsRow w.heap.size 9 1 v (totalN s.size) ((frowsP s arch).map Value.string)) := by
  have hs' := hs
  unfold maxLen at hs
  by_cases h3 : (300 : Int) < s.size
  · go_enter Tryz.func22, Tryz.ntmps22
    go_wp2_with fail
    go_ret2
    exact ⟨_, _, rfl, Ext.refl _, fun h => by cases h⟩
  have hA := fun W => (split_any' s arch W hs').mono fun e w' h => PcPost.open h
  unfold splitA at hA
  rw [if_neg (by omega)] at hA
  by_cases hp : prB s.data.toList = false
  · rw [if_pos hp] at hA
    have HA := Lib.hid hA
    clear hA hp
    simp only [List.length_nil] at HA
    go_enter Tryz.func22, Tryz.ntmps22
    go_wp2_with fail
    refine (HA.out _).mono ?_
    rintro e w1 ⟨A, cA, rfl, hlA, hx1⟩
    go_wp2_with fail
    go_loopw [8, 9, 10, 11, 24] (fun ov _ _ _ iv wr => iv = .int .i64 0 ∧ Ext w1 wr) (fun _ _ _ _ iv _ => 0)
    case atStart => exact ⟨rfl, (Ext.refl _).alloc _⟩
    case round =>
      obtain ⟨rfl, hx⟩ := hrel
      go_wp2_with fail
      go_ret2
      exact ⟨_, _, rfl, hx1.trans hx, fun h => by cases h⟩
  rw [if_neg hp] at hA
  rw [Bool.not_eq_false] at hp
  obtain ⟨T, hT⟩ : ∃ T, T = totalN s.size := ⟨_, rfl⟩
  have hT5 : T ≤ 5 := by rw [hT]; unfold totalN; omega
  have hlen := pieces_len s arch
  have hEN : ∀ i, i < T → ∀ W, Env W → Calls Tryz.prog 20 #[(pieceP s arch i).val] W fun e w' => e = .returned (.tuple #[.string (BA (encL (pieceP s arch i))), .int .i64 0]) ∧ Ext W w' := by
    intro i hi W hW
    have hv := piece_valid s arch i (by omega) (by omega) hp
    have := encode_any (pieceP s arch i) W ha (by rw [(check_ok hv).2.2.2.2.1]; decide) hW
    unfold encodeA at this
    rw [if_pos hv] at this
    exact this
  have hsn := fun i hi => frV_succ s arch i hi
  have hget := piece_cells s arch
  rw [← hT] at hlen hsn ⊢
  have hfull : frV s arch T = (frowsP s arch).map Value.string := by rw [hT]; exact frV_full s arch
  generalize (frowsP s arch).map Value.string = FR at *
  rw [hlen] at hA
  have HA := Lib.hid hA
  have HEN := Lib.hid hEN
  have HSN := Lib.hid hsn
  have HG := Lib.hid hget
  have HLen := Lib.hid hlen
  have HF := Lib.hid hfull
  have HP := Lib.hid hp
  have hs3 : s.size ≤ 300 := by omega
  clear hA hEN hsn hget hlen hp hfull hT
  simp only at HA
  obtain ⟨i0, hi0, hz0, hz1, hz2⟩ := info_parts strInfo27
  go_enter Tryz.func22, Tryz.ntmps22
  go_wp2_with fail
  refine (HA.out _).mono ?_
  rintro e w1 ⟨A, cA, rfl, hlA, hx1⟩
  have hroom := hlA.room
  have hmax := hlA.max
  unfold maxLen at hmax
  have HLA := Lib.hid hlA
  clear hlA
  go_wp2_with fail
  go_loopw [8, 9, 10, 11, 24] (fun ov _ _ _ iv wr => ∃ i : Nat, iv = .int .i64 i ∧ i ≤ T ∧ wr.ownsRow w1.heap.size 9 1 ov i (frV s arch i) ∧ Ext w1 wr) (fun _ _ _ _ iv _ => T - (intOf iv).toNat)
  case atStart => exact ⟨0, rfl, Nat.zero_le _, by rw [frV_zero]; exact own_empty _ _ _ _ (Nat.le_refl _), (Ext.refl _).alloc _⟩
  case round =>
    obtain ⟨i, rfl, hi, hown, hx⟩ := hrel
    have HO := Lib.hid hown
    clear hown
    by_cases hlt : i < T
    · obtain ⟨b, rfl, hc⟩ := HLA.out.at_ (by omega)
      have hil : i < (piecesP s arch).length := by rw [HLen.out]; exact hlt
      obtain ⟨e1, e2, e3, e4⟩ := hc i hil
      rw [HG.out i hil] at e1 e2 e3 e4
      have HE := Lib.hid (HEN.out i hlt)
      have HS := Lib.hid (HSN.out i hlt)
      have hpv : (pieceP s arch i).val = .agg #[.int .u32 arch, .int .i64 i, .int .i64 (totalN s.size : Nat), .string (fullB s |>.extract (i * 64) ((i + 1) * 64))] := rfl
      rw [hpv] at HE
      have e1 : w1.cell? ⟨b, i * 4, none⟩ = some (.int .u32 arch) := e1
      have e2 : w1.cell? ⟨b, i * 4 + 1, none⟩ = some (.int .i64 i) := e2
      have e3 : w1.cell? ⟨b, i * 4 + 2, none⟩ = some (.int .i64 (totalN s.size : Nat)) := e3
      have e4 : w1.cell? ⟨b, i * 4 + 3, none⟩ = some (.string (fullB s |>.extract (i * 64) ((i + 1) * 64))) := e4
      have e1 := hx.cell e1
      have e2 := hx.cell e2
      have e3 := hx.cell e3
      have e4 := hx.cell e4
      have hEx := hE.ext (hx1.trans hx)
      clear hpv hc
      generalize (fullB s).extract (i * 64) ((i + 1) * 64) = Pt at *
      generalize ((totalN s.size : Nat) : Int) = Tz at *
      generalize BA (encL (pieceP s arch i)) = C at *
      go_wp2_with fail
      refine (HE.out _ hEx).mono ?_
      rintro e w2 ⟨rfl, hx2⟩
      have hx12 := hx.trans hx2
      have HO := Lib.hid (own_ext HO.out hx2)
      have hi' := hi
      have hi := hi0
      go_wp2_with (at_builtin; refine wpList_append_own _ rfl (.tmp 37) (.tmp 39) _ rfl w1.heap.size 9 i0 _ 1 16 Tryz.underlying22 hi hz0 hz1 hz2 rfl (by omega) _ _ _ rfl (HO.out.alloc _) ⟨w2.heap.size, 0, none⟩ 1 1 [.string C] rfl rfl ?c1 ?c2 ?c3 ?c4 ?c5 ?_)
      case c1 =>
        intro j u hu
        match j, hu with
        | 0, hu => simp at hu; subst hu; go_cell
      case c2 =>
        intro u hu
        simp at hu
        subst hu; rfl
      case c3 => unfold maxLen; omega
      case c4 => omega
      case c5 => (have hc5 := hx12.size; try simp at hc5); simp; omega
      intro v' w2 hown2 hgr _
      have hx3 := (hx12.alloc (.cells #[.string C] 9)).grown hgr (fun k hk => (HO.out.lt k hk).1)
      have HO2 := Lib.hid hown2
      have HG := Lib.hid hgr
      clear hown2 hgr
      go_wp2_with fail
      go_roundw
      case rel => exact ⟨i + 1, by go_num, by omega, by rw [HS.out]; exact HO2.out, hx3⟩
      case measure => simp [intOf]; omega
    · obtain rfl : i = T := by omega
      rw [HF.out] at HO
      obtain ⟨A1, c1, hv1, hl1⟩ := Lst.of_own HO.out
      have hr1 := hl1.room
      have hm1 := hl1.max
      unfold maxLen at hm1
      subst hv1
      have hx2 := hx1.trans hx
      clear hl1
      by_cases hi0 : i = 0
      · subst hi0
        go_wp2_with fail
        go_ret2
        exact ⟨_, _, rfl, hx2, fun h => by simp at h⟩
      · have hb : decide ((0 : Int) < (i : Int)) = true := decide_eq_true (by omega)
        go_wp2_with fail
        go_ret2
        exact ⟨_, _, rfl, hx2, fun _ => ⟨hs3, HP.out, by omega, own_base HO.out hx1.size⟩⟩
end Go.Proofs.YtlkiaeelnbjchaaGreatDoor
