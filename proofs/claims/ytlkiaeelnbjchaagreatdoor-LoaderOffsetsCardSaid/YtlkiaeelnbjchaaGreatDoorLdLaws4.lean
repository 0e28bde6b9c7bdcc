/- The law LoaderRecovers returns true. (Layer 27) -/
import Derived.Test.YtlkiaeelnbjchaaGreatDoorLdLaws3
import Derived.Test.YtlkiaeelnbjchaaGreatDoorGrowT
namespace Go.Proofs.YtlkiaeelnbjchaaGreatDoor
open Go.RowKit
open Go.Lib hiding intOf
set_option linter.unusedVariables false
attribute [local simp] Slots Slot look Is Oper.looksAt Op.operands Call.operands

theorem repeat_any (c : UInt8) (n : Nat) (w : World) (hn : n ≤ 100000) :
    Calls Tryz.prog 21 #[.string ⟨#[c]⟩, .int .i64 n] w fun e w' => e = .returned (.string (BA (List.replicate n c))) ∧ Ext w w' := by
  match n, hn with
  | 0, _ =>
    refine (Tryz.strings_Repeat_zero ⟨#[c]⟩ w).mono ?_
    rintro e w' ⟨rfl, rfl⟩
    exact ⟨rfl, Ext.refl _⟩
  | 1, _ =>
    refine (Tryz.strings_Repeat_one ⟨#[c]⟩ w).mono ?_
    rintro e w' ⟨rfl, rfl⟩
    exact ⟨rfl, Ext.refl _⟩
  | n + 2, hn =>
    refine (Tryz.strings_Repeat_main ⟨#[c]⟩ (n + 2) w (by omega) (by omega) (by show 1 * (n + 2) ≤ _; omega) (show 0 < 1 by decide)).mono ?_
    rintro e w' ⟨rfl, hx⟩
    refine ⟨?_, hx⟩
    have e1 : (⟨#[c]⟩ : ByteArray).data.toList = [c] := rfl
    rw [e1, repeatL_one]
    rfl
/-- a frame between cells -/
def rowR (s : ByteArray) (arch A B m : Nat) : ByteArray := BA (List.replicate A 48 ++ (encL (pieceP s arch m) ++ List.replicate B 63))
def rowsR (s : ByteArray) (arch b A B T i : Nat) : List ByteArray := (List.range i).map fun j => rowR s arch A B ((j * 7 + b) % T)
theorem rowsR_succ (s : ByteArray) (arch b A B T i : Nat) : rowsR s arch b A B T (i + 1) = rowsR s arch b A B T i ++ [rowR s arch A B ((i * 7 + b) % T)] := by
  unfold rowsR
  rw [List.range_succ, List.map_append]; rfl
def rowsRV (s : ByteArray) (arch b A B T i : Nat) : List Value := (rowsR s arch b A B T i).map Value.string
theorem rowsRV_succ (s : ByteArray) (arch b A B T i : Nat) : rowsRV s arch b A B T (i + 1) = rowsRV s arch b A B T i ++ [.string (rowR s arch A B ((i * 7 + b) % T))] := by
  unfold rowsRV
  rw [rowsR_succ, List.map_append]; rfl
theorem onto7 : ∀ T : Fin 6, 1 ≤ T.val → ∀ b : Fin 6, b.val < T.val → ∀ k : Fin 6, k.val < T.val → ∃ j : Fin 6, j.val < T.val ∧ (j.val * 7 + b.val) % T.val = k.val := by decide
theorem framesR (s : ByteArray) (arch b A B T : Nat) (ha : arch < 4294967296) (hT : T = totalN s.size) (h1 : 1 ≤ T) (hs : s.size ≤ 300) (hp : prB s.data.toList = true) :
    framesL (rowsR s arch b A B T T) arch = (List.range T).map fun j => pieceP s arch ((j * 7 + b) % T) := by
  have key : ∀ i, framesL (rowsR s arch b A B T i) arch = (List.range i).map fun j => pieceP s arch ((j * 7 + b) % T) := by
    intro i
    induction i with
    | zero => rfl
    | succ i ih =>
      rw [rowsR_succ, framesL_append, ih, List.range_succ, List.map_append]
      refine congrArg (List.map _ (List.range i) ++ ·) ?_
      have hm : (i * 7 + b) % T < T := Nat.mod_lt _ h1
      have := framesP_around (pieceP s arch ((i * 7 + b) % T)) A B arch rfl ha (piece_valid s arch _ (by omega) (by omega) hp)
      unfold framesL rowR
      rw [List.flatMap_cons, this]
      rfl
  exact key T
theorem framesR_set (s : ByteArray) (arch b T : Nat) (hT : T = totalN s.size) (h1 : 1 ≤ T) (h5 : T ≤ 5) (x : Pc) : x ∈ (List.range T).map (fun j => pieceP s arch ((j * 7 + b) % T)) ↔ x ∈ piecesP s arch := by
  unfold piecesP
  rw [List.mem_map, List.mem_map, ← hT]
  constructor
  · rintro ⟨j, -, rfl⟩
    exact ⟨(j * 7 + b) % T, List.mem_range.2 (Nat.mod_lt _ h1), rfl⟩
  · rintro ⟨k, hk, rfl⟩
    have hk := List.mem_range.1 hk
    have hb := Nat.mod_lt b h1
    obtain ⟨j, hj, e⟩ := onto7 ⟨T, by omega⟩ h1 ⟨b % T, by omega⟩ hb ⟨k, by omega⟩ hk
    refine ⟨j.val, List.mem_range.2 hj, ?_⟩
    have e2 : (j.val * 7 + b) % T = k := by
      have e' : (j.val * 7 + b % T) % T = k := e
      rw [← e', Nat.add_mod, Nat.add_mod (j.val * 7) (b % T), Nat.mod_mod]
    rw [e2]
theorem rowR_size (s : ByteArray) (arch A B m : Nat) (hm : m < totalN s.size) (hs : s.size ≤ 300) (hp : prB s.data.toList = true) : (rowR s arch A B m).size = A + (768 + B) := by
  unfold rowR
  rw [BA_size, List.length_append, List.length_append, List.length_replicate, List.length_replicate, enc_len (check_ok (piece_valid s arch m hm (by omega) hp)).2.2.2.2.1]

set_option maxRecDepth 100000 in
set_option maxHeartbeats 3200000 in
theorem lawRecov_any (s : ByteArray) (arch b d : Nat) (w : World) (hs : s.size ≤ maxLen) (ha : arch < 4294967296) (hb : b ≤ 255) (hd : d ≤ 255) (hE : Env w) :
    Calls Tryz.prog 9 #[.string s, .int .u32 arch, .int .u8 b, .int .u8 d] w fun e w' => e = .returned (.bool true) ∧ Ext w w' := by
  have HW := Lib.hid (fun W (h : Env W) => awake7_any W h)
  have HF := Lib.hid (fun W (h : Env W) => lframes_any s arch W hs ha h)
  go_enter Tryz.func9, Tryz.ntmps9
  go_wp2_with fail
  refine (HF.out _ hE).mono ?_
  rintro e wF ⟨v1, b1, rfl, hx1, hc1⟩
  cases b1 with
  | false =>
    clear hc1
    go_wp2_with fail
    refine (HW.out _ (hE.ext hx1)).mono ?_
    rintro e w3 ⟨rfl, hx3⟩
    go_wp2_with fail
    go_ret
    exact ⟨rfl, hx1.trans hx3⟩
  | true =>
  obtain ⟨hs3, hsp, hsT, ho1⟩ := hc1 rfl
  obtain ⟨T, hT⟩ : ∃ T, T = totalN s.size := ⟨_, rfl⟩
  have hT5 : T ≤ 5 := by rw [hT]; unfold totalN; omega
  rw [← hT] at hsT ho1
  obtain ⟨A1, c1, rfl, hL1⟩ := Lst.of_own ho1
  obtain ⟨q1, o1, rfl, k1⟩ := hL1.at_ hsT
  have r1 := hL1.room
  have m1 := hL1.max
  unfold maxLen at m1
  obtain ⟨A, hA⟩ : ∃ A : Nat, A = d % 40 := ⟨_, rfl⟩
  obtain ⟨B, hB⟩ : ∃ B : Nat, B = b % 30 := ⟨_, rfl⟩
  have hA1 : (d : Int) % 40 = (A : Int) := by omega
  have hB1 : (b : Int) % 30 = (B : Int) := by omega
  have hT7 : (T : Int) % 7 = (T : Int) := by omega
  have hT0 : ((T : Int) == 0) = false := by rw [beq_eq_false_iff_ne]; omega
  have HCC : Hid (∀ k, k < T → ∀ W, Ext wF W → W.cell? ⟨q1, o1 + k, none⟩ = some (.string (BA (encL (pieceP s arch k))))) := by
    intro k hk W hx
    have hk' : k < ((frowsP s arch).map Value.string).length := by rw [List.length_map, frows_len, ← hT]; exact hk
    have := k1 k hk'
    rw [List.getElem_map, frows_get] at this
    exact hx.cell this
  have HSUC := Lib.hid (fun i => rowsRV_succ s arch b A B T i)
  have HRR : Hid (∀ m, m < T → rowR s arch A B m = BA (List.replicate A 48 ++ (encL (pieceP s arch m) ++ List.replicate B 63))) := fun _ _ => rfl
  have HEZ := Lib.hid (fun m (hm : m < T) => (by rw [BA_size, enc_len (check_ok (piece_valid s arch m (by omega) (by omega) hsp)).2.2.2.2.1] : (BA (encL (pieceP s arch m))).size = 768))
  have HA0 := Lib.hid (fun W => repeat_any 48 A W (by omega))
  have HB0 := Lib.hid (fun W => repeat_any 63 B W (by omega))
  have HT := Lib.hid hT
  have hA9 : A ≤ 39 := by omega
  have hB9 : B ≤ 29 := by omega
  clear k1 hL1 ho1 hc1 hT hA hB
  obtain ⟨i0, hi0, hz0, hz1, hz2⟩ := info_parts strInfo27
  go_wp2_with fail
  go_loopw [11, 12, 13, 29] (fun lv _ _ iv wr => ∃ i : Nat, iv = .int .i64 i ∧ i ≤ T ∧ wr.ownsRow wF.heap.size 9 1 lv i (rowsRV s arch b A B T i) ∧ Ext wF wr) (fun _ _ _ iv _ => T - (intOf iv).toNat)
  case atStart => exact ⟨0, rfl, Nat.zero_le _, own_empty _ _ _ _ (Nat.le_refl _), (Ext.refl _).alloc _⟩
  case round =>
    obtain ⟨i, rfl, hi, hown, hx⟩ := hrel
    have HO := Lib.hid hown
    clear hown
    by_cases hlt : i < T
    · obtain ⟨k, hk⟩ : ∃ k, k = (i * 7 + b) % T := ⟨_, rfl⟩
      have hkT : k < T := by rw [hk]; exact Nat.mod_lt _ (by omega)
      have hk1 : ((i : Int) * 7 + (b : Int)) % (T : Int) = (k : Int) := by rw [hk]; simp
      have hTn : ¬ (T : Int) = 0 := by omega
      have HK := Lib.hid (HCC.out k hkT)
      have hCz := HEZ.out k hkT
      have hsu := HSUC.out i
      rw [← hk, HRR.out k hkT] at hsu
      have HSU := Lib.hid hsu
      generalize hCe : BA (encL (pieceP s arch k)) = C at *
      have hCe := hCe.symm
      clear hsu hk
      have hAC : Hid (BA (List.replicate A 48) ++ C ++ BA (List.replicate B 63) = BA (List.replicate A 48 ++ (encL (pieceP s arch k) ++ List.replicate B 63))) := by
        show _ = _
        rw [hCe, ← BA_append, ← BA_append, List.append_assoc]
      clear hCe
      generalize BA (List.replicate A 48 ++ (encL (pieceP s arch k) ++ List.replicate B 63)) = Z at *
      have hZa : (BA (List.replicate A 48)).size = A := by rw [BA_size, List.length_replicate]
      have hZb : (BA (List.replicate B 63)).size = B := by rw [BA_size, List.length_replicate]
      generalize BA (List.replicate A 48) = Za at *
      generalize BA (List.replicate B 63) = Zb at *
      go_wp2_with fail
      refine wp_region_tail 16 (by first | decide | simp) (by kernel_rfl) (by kernel_rfl) (by kernel_rfl) ?_
      simp only [List.take_succ_cons, List.take_zero, List.drop_succ_cons, List.drop_zero]
      repeat
        first
        | (apply grow_is
           case h =>
            intro a w1 hg hs hsl
            clear hs
            try simp at hsl
            try (first | (refine Exists.elim (row_spec hsl) ?_; rintro b ⟨hv, _, hh⟩) | (refine Exists.elim (row_spec hsl.1) ?_; rintro b ⟨hv, _, hh⟩))
            have hcl := HK.out _ (Ext.trans hx hg)
            unfold growAt guardOk
            go_simp
            try go_bits
            try simp only [↓IntWalk.iteOmega]
            first
              | exact grow_same
              | exact is_skip
              | exact rfl
              | with_reducible exact grow_call_ext (HA0.out _)
              | with_reducible exact grow_call_ext (HB0.out _))
        | (refine grow_in (Row wr #[.string (Za ++ C ++ Zb)] 9 1 1) (Up.row _ _ _ _ _) ?_ ?_
           · intro a w1 hg hs hsl
             clear hs
             try simp at hsl
             try (first | (refine Exists.elim (row_spec hsl) ?_; rintro b ⟨hv, _, hh⟩) | (refine Exists.elim (row_spec hsl.1) ?_; rintro b ⟨hv, _, hh⟩))
             have hcl := HK.out _ (Ext.trans hx hg)
             unfold growAt guardOk
             go_simp
             try go_bits
             try simp only [↓IntWalk.iteOmega]
             with_reducible exact row_new hg)
      refine grow_finL ?_
      intro w1 hw1
      simp only [List.reverse_cons, List.reverse_nil, List.nil_append, List.cons_append, FinT, Is, forall_eq, List.setIfInBounds_toArray, List.set_cons_succ, List.set_cons_zero]
      intro v1 hv1
      obtain ⟨rb, rfl, hrb, hrh⟩ := row_spec hv1
      have hx1w := hx.trans hw1
      have HOw := Lib.hid (own_ext HO.out hw1)
      have hsw : wF.heap.size ≤ w1.heap.size := Nat.le_trans hx.size hw1.size
      go_wp2_with (at_builtin; refine wpList_append_strs rfl (.tmp 49) (.tmp 64) rfl wF.heap.size _ i _ rfl HOw.out rb 0 1 1 [Za ++ C ++ Zb] rfl rfl ?p2 ?p3 ?p4 ?_)
      case p2 =>
        intro j hj
        match j, hj with
        | 0, _ => exact row_cell hrh rfl
      case p3 => omega
      case p4 => exact hsw
      intro v' w2 ho2 hg2
      have hx3 : Ext wF w2 := hx1w.grown hg2 (fun k hk => (HOw.out.lt k hk).1)
      have HO2 := Lib.hid ho2
      clear ho2 hg2
      go_wp2_with fail
      go_roundw
      case rel => exact ⟨i + 1, by go_num, by omega, by rw [HSU.out, ← hAC.out]; exact HO2.out, hx3⟩
      case measure => simp [intOf]; omega
    · obtain rfl : i = T := by omega
      obtain ⟨AL, cL, rfl, hlL⟩ := Lst.of_own HO.out
      have hFR := framesR s arch b A B i ha HT.out hsT hs3 hsp
      have hset := framesR_set s arch b i HT.out hsT hT5
      have hlA := loadA_all s arch _ hset (by rw [← HT.out]; exact hsT)
      have hrl : (rowsR s arch b A B i i).length ≤ 5 := by unfold rowsR; rw [List.length_map, List.length_range]; exact hT5
      have hrz : ∀ r ∈ rowsR s arch b A B i i, r.size ≤ 1000000000 := by
        intro r hr
        unfold rowsR at hr
        obtain ⟨j, hj, rfl⟩ := List.mem_map.1 hr
        rw [rowR_size s arch A B _ (by rw [← HT.out]; exact Nat.mod_lt _ hsT) hs3 hsp]
        omega
      have hLD := load_any AL i cL arch (rowsR s arch b A B i i) wr (hE.ext (hx1.trans hx)) ha hlL hrz (by rw [hFR, List.length_map, List.length_range]; omega)
      rw [hFR, hlA] at hLD
      obtain ⟨F, hF⟩ : ∃ F, F = fullB s := ⟨_, rfl⟩
      rw [← hF] at hLD
      simp only at hLD
      rw [show BA F.data.toList = F from bytes_inj (BA_data _)] at hLD
      have hFz : F.size = i * 64 := by rw [hF, full_size, ← HT.out]
      have hFd : F.data.toList = s.data.toList ++ List.replicate (i * 64 - s.size) 32 := by rw [hF, full_data, ← HT.out]
      have hpd : i * 64 - s.size < 64 ∧ s.size ≤ i * 64 := by have := HT.out; unfold totalN at this; omega
      obtain ⟨hpd1, hpd2⟩ := hpd
      have hHP := fun W => Tryz.strings_HasPrefix F s W
      have hpx : Lib.hasPrefix F.data.toList s.data.toList = true := by rw [hFd]; exact List.isPrefixOf_iff_prefix.2 (List.prefix_append _ _)
      rw [hpx] at hHP
      have hex : (F.extract s.size F.size).data.toList = List.replicate (i * 64 - s.size) 32 := by
        rw [ext_end, hFd]
        exact List.drop_left
      have hTR := fun W => Tryz.strings_TrimRight_one (F.extract s.size F.size) 32 (by decide) W (by rw [ByteArray.size_extract]; omega)
      have htr : Lib.trimRightB (List.replicate (i * 64 - s.size) (32 : UInt8)) 32 = [] := by
        unfold Lib.trimRightB
        simp
      rw [hex, htr, hFz] at hTR
      have HLD := Lib.hid hLD
      have HHP := Lib.hid hHP
      have HTR := Lib.hid hTR
      have hx2 := hx1.trans hx
      clear hLD hHP hTR hex htr hpx hFd hF hrz hrl hlA hset hFR hlL HO HT HCC HSUC HEZ HRR hA1 hB1 hT7
      go_wp2_with fail
      refine HLD.out.mono ?_
      rintro e w3 ⟨vm, rfl, hom, hx3⟩
      obtain ⟨Am, cm, rfl, -⟩ := Lst.of_own hom
      have hx13 := hx2.trans hx3
      clear hom
      simp only [List.length_nil]
      go_wp2_with fail
      refine (HHP.out _).mono ?_
      rintro e w4 ⟨rfl, rfl⟩
      go_wp2_with fail
      refine (HTR.out _).mono ?_
      rintro e w5 ⟨rfl, rfl⟩
      go_wp2_with fail
      refine (HW.out _ (hE.ext hx13)).mono ?_
      rintro e w6 ⟨rfl, hx6⟩
      go_wp2_with fail
      go_ret
      exact ⟨rfl, hx13.trans hx6⟩
end Go.Proofs.YtlkiaeelnbjchaaGreatDoor
