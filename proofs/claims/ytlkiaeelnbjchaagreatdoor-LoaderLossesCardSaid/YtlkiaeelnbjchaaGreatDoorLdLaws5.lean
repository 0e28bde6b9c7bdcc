/- The law LoaderLosses returns true. (Layer 27) -/
import Derived.Test.YtlkiaeelnbjchaaGreatDoorLdLaws4
namespace Go.Proofs.YtlkiaeelnbjchaaGreatDoor
open Go.RowKit
open Go.Lib hiding intOf
set_option linter.unusedVariables false
attribute [local simp] Slots Slot look Is Oper.looksAt Op.operands Call.operands

/-- a row of one type stays where a row of another type grows -/
theorem own_other {w w' : World} {b1 b2 : Nat} {e1 e2 : TypeId} {s1 s2 n1 n2 : Nat} {v1 v2 : Value} {xs1 xs2 : List Value} (h1 : w.ownsRow b1 e1 s1 v1 n1 xs1) (h2 : w.ownsRow b2 e2 s2 v2 n2 xs2) (he : e1 ≠ e2) (hg : w.grownBy w' v2.ownBlock) :
    w'.ownsRow b1 e1 s1 v1 n1 xs1 := by
  refine h1.kept hg ?_
  rcases h1.2 with ⟨rfl, _⟩ | ⟨g, cap, cur, rfl, _, hg', _⟩
  · exact Or.inl rfl
  · refine Or.inr fun e' => ?_
    rcases h2.2 with ⟨rfl, _⟩ | ⟨g2, cap2, cur2, rfl, _, hg2, _⟩
    · simp [Value.ownBlock] at e'
    · simp only [Value.ownBlock, Option.some.injEq] at e'
      subst e'
      rw [hg'] at hg2
      simp only [Option.some.injEq, Obj.cells.injEq] at hg2
      exact he hg2.2.1
def bitN (x i : Nat) : Bool := decide (x / 2 ^ i % 2 = 1)
def keepN (lost bent i : Nat) : Bool := !bitN lost i && !bitN bent i
def wantN (lost bent n : Nat) : List Nat := (List.range n).filter fun i => !keepN lost bent i
theorem wantN_succ (lost bent n : Nat) : wantN lost bent (n + 1) = wantN lost bent n ++ (if keepN lost bent n = true then [] else [n]) := by
  unfold wantN
  rw [List.range_succ, List.filter_append]
  congr 1
  by_cases h : keepN lost bent n = true
  · rw [if_pos h, List.filter_cons_of_neg (by simp [h])]; rfl
  · rw [if_neg h, List.filter_cons_of_pos (by simp [h])]; rfl
theorem wantN_len (lost bent n : Nat) : (wantN lost bent n).length ≤ n := by
  unfold wantN
  exact Nat.le_trans (List.length_filter_le _ _) (by rw [List.length_range]; exact Nat.le_refl _)
theorem wantN_all (lost bent n : Nat) : (wantN lost bent n).length = n ↔ ∀ i, i < n → keepN lost bent i = false := by
  unfold wantN
  conv => lhs; rhs; rw [← List.length_range (n := n)]
  rw [List.length_filter_eq_length_iff]
  constructor
  · intro h i hi
    have := h i (List.mem_range.2 hi)
    simpa using this
  · intro h i hi
    have := h i (List.mem_range.1 hi)
    simpa using this
def bentR (s : ByteArray) (arch k i : Nat) : ByteArray := BA ((encL (pieceP s arch i)).take k ++ [63] ++ (encL (pieceP s arch i)).drop (k + 1))
def lossR (s : ByteArray) (arch lost bent k i : Nat) : List ByteArray := if bitN lost i = true then [] else if bitN bent i = true then [bentR s arch k i] else [BA (encL (pieceP s arch i))]
def lossRows (s : ByteArray) (arch lost bent k n : Nat) : List ByteArray := (List.range n).flatMap (lossR s arch lost bent k)
theorem lossRows_succ (s : ByteArray) (arch lost bent k n : Nat) : lossRows s arch lost bent k (n + 1) = lossRows s arch lost bent k n ++ lossR s arch lost bent k n := by
  unfold lossRows
  rw [List.range_succ, List.flatMap_append]; simp
theorem lossRows_len (s : ByteArray) (arch lost bent k : Nat) : ∀ n, (lossRows s arch lost bent k n).length ≤ n
  | 0 => Nat.le_refl _
  | n + 1 => by
    rw [lossRows_succ, List.length_append]
    have h1 := lossRows_len s arch lost bent k n
    have h2 : (lossR s arch lost bent k n).length ≤ 1 := by
      unfold lossR
      split
      · exact Nat.zero_le _
      · split <;> exact Nat.le_refl _
    omega
def lossV (s : ByteArray) (arch lost bent k n : Nat) : List Value := (lossRows s arch lost bent k n).map Value.string
theorem lossV_succ (s : ByteArray) (arch lost bent k n : Nat) : lossV s arch lost bent k (n + 1) = lossV s arch lost bent k n ++ (lossR s arch lost bent k n).map Value.string := by
  unfold lossV
  rw [lossRows_succ, List.map_append]
theorem loss_frames (s : ByteArray) (arch lost bent k : Nat) (ha : arch < 4294967296) (hk : k < 768) (hs : s.size ≤ 300) (hp : prB s.data.toList = true) :
    ∀ n, n ≤ totalN s.size → ∀ x, x ∈ framesL (lossRows s arch lost bent k n) arch ↔ ∃ i, i < n ∧ keepN lost bent i = true ∧ x = pieceP s arch i
  | 0, _, x => by
    constructor
    · intro h; cases h
    · rintro ⟨i, hi, -⟩; exact absurd hi (Nat.not_lt_zero _)
  | n + 1, hn, x => by
    have ih := loss_frames s arch lost bent k ha hk hs hp n (by omega) x
    have hv := piece_valid s arch n (by omega) (by omega) hp
    rw [lossRows_succ, framesL_append, List.mem_append, ih]
    have hl : framesL (lossR s arch lost bent k n) arch = if keepN lost bent n = true then [pieceP s arch n] else [] := by
      unfold lossR keepN
      by_cases h1 : bitN lost n = true
      · rw [if_pos h1, h1]; rfl
      · rw [if_neg h1]
        rw [Bool.not_eq_true] at h1
        by_cases h2 : bitN bent n = true
        · rw [if_pos h2, h1, h2]
          unfold framesL bentR
          rw [List.flatMap_cons, framesP_bent _ k arch hk hv]; rfl
        · rw [if_neg h2]
          rw [Bool.not_eq_true] at h2
          rw [h1, h2]
          unfold framesL
          rw [List.flatMap_cons, framesP_enc _ arch rfl ha hv]; rfl
    rw [hl]
    constructor
    · rintro (⟨i, hi, h1, h2⟩ | h)
      · exact ⟨i, by omega, h1, h2⟩
      · by_cases hkn : keepN lost bent n = true
        · rw [if_pos hkn, List.mem_singleton] at h
          exact ⟨n, by omega, hkn, h⟩
        · rw [if_neg hkn] at h; cases h
    · rintro ⟨i, hi, h1, h2⟩
      by_cases e : i = n
      · subst e; right; rw [if_pos h1, List.mem_singleton]; exact h2
      · exact .inl ⟨i, by omega, h1, h2⟩
theorem loss_load (s : ByteArray) (arch lost bent k : Nat) (ha : arch < 4294967296) (hk : k < 768) (hs : s.size ≤ 300) (hp : prB s.data.toList = true) (hT : 1 ≤ totalN s.size) :
    loadA (framesL (lossRows s arch lost bent k (totalN s.size)) arch) = if (wantN lost bent (totalN s.size)).length = totalN s.size then ([], [], 9) else if wantN lost bent (totalN s.size) = [] then ((fullB s).data.toList, [], 0) else ([], wantN lost bent (totalN s.size), 19) := by
  have hset := loss_frames s arch lost bent k ha hk hs hp (totalN s.size) (Nat.le_refl _)
  by_cases h : (wantN lost bent (totalN s.size)).length = totalN s.size
  · rw [if_pos h]
    have hno := (wantN_all lost bent _).1 h
    have e : framesL (lossRows s arch lost bent k (totalN s.size)) arch = [] := by
      rw [List.eq_nil_iff_forall_not_mem]
      intro x hx
      obtain ⟨i, hi, h1, -⟩ := (hset x).1 hx
      rw [hno i hi] at h1; cases h1
    rw [e]; rfl
  · rw [if_neg h]
    have hne : framesL (lossRows s arch lost bent k (totalN s.size)) arch ≠ [] := by
      intro e
      apply h
      rw [wantN_all]
      intro i hi
      cases hki : keepN lost bent i with
      | false => rfl
      | true =>
        have := (hset (pieceP s arch i)).2 ⟨i, hi, hki, rfl⟩
        rw [e] at this; cases this
    exact loadA_some s arch (keepN lost bent) _ hset hne
theorem loss_size (s : ByteArray) (arch lost bent k n : Nat) (hk : k < 768) (hn : n ≤ totalN s.size) (hs : s.size ≤ 300) (hp : prB s.data.toList = true) : ∀ r ∈ lossRows s arch lost bent k n, r.size ≤ 1000 := by
  intro r hr
  unfold lossRows at hr
  obtain ⟨i, hi, hr⟩ := List.mem_flatMap.1 hr
  have hz := enc_len (check_ok (piece_valid s arch i (by have := List.mem_range.1 hi; omega) (by omega) hp)).2.2.2.2.1
  unfold lossR at hr
  split at hr
  · cases hr
  · split at hr
    · rw [List.mem_singleton] at hr
      rw [hr]
      unfold bentR
      rw [BA_size, List.length_append, List.length_append, List.length_take, List.length_drop, hz]
      simp; omega
    · rw [List.mem_singleton] at hr
      rw [hr, BA_size, hz]; decide
theorem bent_cut (X : List UInt8) (k : Nat) : (BA X).extract 0 k ++ ⟨#[63]⟩ ++ (BA X).extract (k + 1) X.length = BA (X.take k ++ [63] ++ X.drop (k + 1)) := by
  rw [ext_BA, ext_BA, BA_data, List.drop_zero, Nat.sub_zero, List.take_of_length_le (l := X.drop (k + 1)) (by rw [List.length_drop]; exact Nat.le_refl _), show (⟨#[63]⟩ : ByteArray) = BA [63] from rfl, ← BA_append, ← BA_append]
theorem bit_int (x i : Nat) (hx : x ≤ 255) : bits .and .u8 ((x : Int) / 2 ^ i) 1 = ((x / 2 ^ i % 2 : Nat) : Int) := by
  have h : x / 2 ^ i < 256 := Nat.lt_of_le_of_lt (Nat.div_le_self _ _) (by omega)
  have := and_one ⟨x / 2 ^ i, h⟩
  rw [← this]
  simp

set_option maxRecDepth 100000 in
set_option maxHeartbeats 6400000 in
theorem lawLoss_any (s : ByteArray) (arch lost bent m : Nat) (w : World) (hs : s.size ≤ maxLen) (ha : arch < 4294967296) (hb : lost ≤ 255) (hd : bent ≤ 255) (hm : m ≤ 65535) (hE : Env w) :
    Calls Tryz.prog 7 #[.string s, .int .u32 arch, .int .u8 lost, .int .u8 bent, .int .u16 m] w fun e w' => e = .returned (.bool true) ∧ Ext w w' := by
  have HW := Lib.hid (fun W (h : Env W) => awake7_any W h)
  have HF := Lib.hid (fun W (h : Env W) => lframes_any s arch W hs ha h)
  go_enter Tryz.func7, Tryz.ntmps7
  go_wp2_with fail
  refine (HF.out _ hE).mono ?_
  rintro e wF ⟨v1, b1, rfl, hx1, hc1⟩
  cases b1 with
  | false =>
    clear hc1
    go_wp2_with fail
    refine (HW.out _ (hE.ext hx1)).mono ?_
    rintro e w3 ⟨rfl, hx3⟩
    go_wp2_with fail
    go_ret
    exact ⟨rfl, hx1.trans hx3⟩
  | true =>
  obtain ⟨hs3, hsp, hsT, ho1⟩ := hc1 rfl
  obtain ⟨T, hT⟩ : ∃ T, T = totalN s.size := ⟨_, rfl⟩
  have hT5 : T ≤ 5 := by rw [hT]; unfold totalN; omega
  rw [← hT] at hsT ho1
  obtain ⟨A1, c1, rfl, hL1⟩ := Lst.of_own ho1
  obtain ⟨q1, o1, rfl, k1⟩ := hL1.at_ hsT
  have r1 := hL1.room
  have m1 := hL1.max
  unfold maxLen at m1
  obtain ⟨k, hk⟩ : ∃ k : Nat, k = m % 768 := ⟨_, rfl⟩
  have hk1 : (m : Int) % 768 = (k : Int) := by omega
  have hk7 : k < 768 := by omega
  have HCC : Hid (∀ i, i < T → ∀ W, Ext wF W → W.cell? ⟨q1, o1 + i, none⟩ = some (.string (BA (encL (pieceP s arch i))))) := by
    intro i hi W hx
    have hi' : i < ((frowsP s arch).map Value.string).length := by rw [List.length_map, frows_len, ← hT]; exact hi
    have := k1 i hi'
    rw [List.getElem_map, frows_get] at this
    exact hx.cell this
  have HEZ := Lib.hid (fun m (hm : m < T) => (by rw [BA_size, enc_len (check_ok (piece_valid s arch m (by omega) (by omega) hsp)).2.2.2.2.1] : (BA (encL (pieceP s arch m))).size = 768))
  have HEL := Lib.hid (fun m (hm : m < T) => (enc_len (check_ok (piece_valid s arch m (by omega) (by omega) hsp)).2.2.2.2.1 : (encL (pieceP s arch m)).length = 768))
  have HT := Lib.hid hT
  clear k1 hL1 ho1 hc1 hT hk
  obtain ⟨i0, hi0, hz0, hz1, hz2⟩ := info_parts strInfo27
  obtain ⟨j0, hj0, hy0, hy1, hy2⟩ := info_parts intInfo
  go_wp2_with fail
  go_loopw [13, 14, 15, 16, 38] (fun lv wv _ _ iv wr => ∃ i : Nat, iv = .int .i64 i ∧ i ≤ T ∧ wr.ownsRow wF.heap.size 9 1 lv (lossRows s arch lost bent k i).length (lossV s arch lost bent k i) ∧ wr.ownsRow wF.heap.size 3 1 wv (wantN lost bent i).length (intsN (wantN lost bent i)) ∧ Ext wF wr) (fun _ _ _ _ iv _ => T - (intOf iv).toNat)
  case atStart => exact ⟨0, rfl, Nat.zero_le _, own_ext (own_empty _ _ _ _ (Nat.le_refl _)) ((Ext.refl _).alloc _), by
    have h0 := own_empty (wF.alloc (.cells #[] 9)) wF.heap.size 3 1 (by rw [World.size_alloc]; omega)
    rw [World.size_alloc] at h0
    exact h0, ((Ext.refl _).alloc _).alloc _⟩
  case round =>
    obtain ⟨i, rfl, hi, hown, howw, hx⟩ := hrel
    have HO := Lib.hid hown
    have HOW := Lib.hid howw
    have hll := lossRows_len s arch lost bent k i
    have hwl := wantN_len lost bent i
    clear hown howw
    by_cases hlt : i < T
    · have hc := HCC.out i hlt wr hx
      have hCz := HEZ.out i hlt
      have hls := congrArg List.length (lossRows_succ s arch lost bent k i)
      have hvs := lossV_succ s arch lost bent k i
      have hws := wantN_succ lost bent i
      have hb1 := bit_int lost i hb
      have hb2 := bit_int bent i hd
      have hi' := hi
      by_cases h1 : bitN lost i = true
      · have hke : keepN lost bent i = false := by unfold keepN; rw [h1]; rfl
        have hlr : lossR s arch lost bent k i = [] := by unfold lossR; rw [if_pos h1]
        rw [hlr, List.append_nil] at hls
        rw [hlr, List.map_nil, List.append_nil] at hvs
        rw [hke, if_neg (by decide)] at hws
        have h1' : lost / 2 ^ i % 2 = 1 := of_decide_eq_true h1
        rw [h1'] at hb1
        have HLS := Lib.hid hls
        have HVS := Lib.hid hvs
        have HWS := Lib.hid hws
        generalize wantN lost bent i = M at *
        generalize lossRows s arch lost bent k i = LR at *
        generalize lossV s arch lost bent k i = LV at *
        clear hls hvs hws hb2 h1' hlr hke h1
        generalize BA (encL (pieceP s arch i)) = C at *
        obtain ⟨i0, hi, hz0, hz1, hz2⟩ := info_parts intInfo
        go_wp2_with (at_builtin; refine wpList_append_own _ rfl (.tmp 62) (.tmp 64) _ rfl wF.heap.size 3 i0 _ 1 8 Tryz.underlying26 hi hz0 hz1 hz2 rfl (by omega) _ _ _ rfl (HOW.out.alloc _) ⟨wr.heap.size, 0, none⟩ 1 1 [.int .i64 (i : Int)] rfl rfl ?c1 ?c2 ?c3 ?c4 ?c5 ?_)
        case c1 =>
          intro j u hu
          match j, hu with
          | 0, hu => simp at hu; subst hu; go_cell
        case c2 =>
          intro u hu
          simp at hu
          subst hu; rfl
        case c3 => unfold maxLen; omega
        case c4 => omega
        case c5 => (have hc5 := hx.size; try simp at hc5); simp; omega
        intro v' w2 hown2 hgr _
        have hx3 := (hx.alloc (.cells #[.int .i64 (i : Int)] 3)).grown hgr (fun k hk => (HOW.out.lt k hk).1)
        have HO2 := Lib.hid hown2
        have HG := Lib.hid hgr
        clear hown2 hgr
        have HOs := Lib.hid (own_other (HO.out.alloc (.cells #[.int .i64 (i : Int)] 3)) (HOW.out.alloc (.cells #[.int .i64 (i : Int)] 3)) (by decide) HG.out)
        go_wp2_with fail
        go_roundw
        case rel => exact ⟨i + 1, by go_num, by omega, by rw [HLS.out, HVS.out]; exact HOs.out, by rw [HWS.out, List.length_append, intsN_snoc]; exact HO2.out, hx3⟩
        case measure => simp [intOf]; omega
      rw [Bool.not_eq_true] at h1
      have h1' : lost / 2 ^ i % 2 = 0 := by have := of_decide_eq_false h1; omega
      rw [h1'] at hb1
      by_cases h2 : bitN bent i = true
      · have hke : keepN lost bent i = false := by unfold keepN; rw [h1, h2]; rfl
        have hlr : lossR s arch lost bent k i = [bentR s arch k i] := by unfold lossR; rw [h1, if_neg (by decide), if_pos h2]
        rw [hlr, List.length_append] at hls
        rw [hlr] at hvs
        rw [hke, if_neg (by decide)] at hws
        have h2' : bent / 2 ^ i % 2 = 1 := of_decide_eq_true h2
        rw [h2'] at hb2
        have hbr : bentR s arch k i = (BA (encL (pieceP s arch i))).extract 0 k ++ ⟨#[63]⟩ ++ (BA (encL (pieceP s arch i))).extract (k + 1) 768 := by
          have := bent_cut (encL (pieceP s arch i)) k
          rw [HEL.out i hlt] at this
          exact this.symm
        have HBR := Lib.hid hbr
        have HK := Lib.hid (HCC.out i hlt)
        have HLS := Lib.hid hls
        have HVS := Lib.hid hvs
        have HWS := Lib.hid hws
        generalize wantN lost bent i = M at *
        generalize lossRows s arch lost bent k i = LR at *
        generalize lossV s arch lost bent k i = LV at *
        clear hls hvs hws h2' hlr hke h1 h1' h2 hbr
        generalize BA (encL (pieceP s arch i)) = C at *
        have i0s := hi0
        obtain ⟨i0, hi, hz0, hz1, hz2⟩ := info_parts intInfo
        go_wp2_with (at_builtin; refine wpList_append_own _ rfl (.tmp 72) (.tmp 74) _ rfl wF.heap.size 3 i0 _ 1 8 Tryz.underlying26 hi hz0 hz1 hz2 rfl (by omega) _ _ _ rfl (HOW.out.alloc _) ⟨wr.heap.size, 0, none⟩ 1 1 [.int .i64 (i : Int)] rfl rfl ?d1 ?d2 ?d3 ?d4 ?d5 ?_)
        case d1 =>
          intro j u hu
          match j, hu with
          | 0, hu => simp at hu; subst hu; go_cell
        case d2 =>
          intro u hu
          simp at hu
          subst hu; rfl
        case d3 => unfold maxLen; omega
        case d4 => omega
        case d5 => (have hc5 := hx.size; try simp at hc5); simp; omega
        intro v' w2 hown2 hgr _
        have hx3 := (hx.alloc (.cells #[.int .i64 (i : Int)] 3)).grown hgr (fun k hk => (HOW.out.lt k hk).1)
        have HO2 := Lib.hid hown2
        have HG := Lib.hid hgr
        clear hown2 hgr
        have HOs := Lib.hid (own_other (HO.out.alloc (.cells #[.int .i64 (i : Int)] 3)) (HOW.out.alloc (.cells #[.int .i64 (i : Int)] 3)) (by decide) HG.out)
        clear hc hx
        go_wp2_with fail
        refine wp_region_tail 17 (by first | decide | simp) (by kernel_rfl) (by kernel_rfl) (by kernel_rfl) ?_
        simp only [List.take_succ_cons, List.take_zero, List.drop_succ_cons, List.drop_zero]
        repeat
          first
          | (apply grow_is
             case h =>
              intro a w1 hg hs hsl
              clear hs
              try simp at hsl
              try (first | (refine Exists.elim (row_spec hsl) ?_; rintro b ⟨hv, _, hh⟩) | (refine Exists.elim (row_spec hsl.1) ?_; rintro b ⟨hv, _, hh⟩))
              have hcl := HK.out _ (Ext.trans hx3 hg)
              unfold growAt guardOk
              go_simp
              try go_bits
              try simp only [↓IntWalk.iteOmega]
              first
                | exact grow_same
                | exact is_skip
                | exact rfl)
          | (refine grow_in (Row w2 #[.string (C.extract 0 k ++ ⟨#[63]⟩ ++ C.extract (k + 1) 768)] 9 1 1) (Up.row _ _ _ _ _) ?_ ?_
             · intro a w1 hg hs hsl
               clear hs
               try simp at hsl
               try (first | (refine Exists.elim (row_spec hsl) ?_; rintro b ⟨hv, _, hh⟩) | (refine Exists.elim (row_spec hsl.1) ?_; rintro b ⟨hv, _, hh⟩))
               have hcl := HK.out _ (Ext.trans hx3 hg)
               unfold growAt guardOk
               go_simp
               try go_bits
               try simp only [↓IntWalk.iteOmega]
               with_reducible exact row_new hg)
        refine grow_finL ?_
        intro w1 hw1
        simp only [List.reverse_cons, List.reverse_nil, List.nil_append, List.cons_append, FinT, Is, forall_eq, List.setIfInBounds_toArray, List.set_cons_succ, List.set_cons_zero]
        intro v1 hv1
        obtain ⟨rb, rfl, hrb, hrh⟩ := row_spec hv1
        have hx1w := hx3.trans hw1
        have HOt := Lib.hid (own_ext HOs.out hw1)
        have HOu := Lib.hid (own_ext HO2.out hw1)
        have hsw : wF.heap.size ≤ w1.heap.size := Nat.le_trans hx3.size hw1.size
        go_wp2_with (at_builtin; refine wpList_append_strs rfl (.tmp 76) (.tmp 92) rfl wF.heap.size _ _ _ rfl HOt.out rb 0 1 1 [C.extract 0 k ++ ⟨#[63]⟩ ++ C.extract (k + 1) 768] rfl rfl ?p2 ?p3 ?p4 ?_)
        case p2 =>
          intro j hj
          match j, hj with
          | 0, _ => exact row_cell hrh rfl
        case p3 => omega
        case p4 => exact hsw
        intro v'' w3 ho3 hg3
        have hx4 : Ext wF w3 := hx1w.grown hg3 (fun k hk => (HOt.out.lt k hk).1)
        have HO3 := Lib.hid ho3
        have HO4 := Lib.hid (own_other HOu.out HOt.out (by decide) hg3)
        clear ho3 hg3
        go_wp2_with fail
        go_roundw
        case rel => exact ⟨i + 1, by go_num, by omega, by rw [HLS.out, HVS.out, HBR.out]; exact HO3.out, by rw [HWS.out, List.length_append, intsN_snoc]; exact HO4.out, hx4⟩
        case measure => simp [intOf]; omega
      · rw [Bool.not_eq_true] at h2
        have hke : keepN lost bent i = true := by unfold keepN; rw [h1, h2]; rfl
        have hlr : lossR s arch lost bent k i = [BA (encL (pieceP s arch i))] := by unfold lossR; rw [h1, if_neg (by decide), h2, if_neg (by decide)]
        rw [hlr, List.length_append] at hls
        rw [hlr] at hvs
        rw [hke, if_pos rfl, List.append_nil] at hws
        have h2' : bent / 2 ^ i % 2 = 0 := by have := of_decide_eq_false h2; omega
        rw [h2'] at hb2
        have HLS := Lib.hid hls
        have HVS := Lib.hid hvs
        have HWS := Lib.hid hws
        generalize wantN lost bent i = M at *
        generalize lossRows s arch lost bent k i = LR at *
        generalize lossV s arch lost bent k i = LV at *
        clear hls hvs hws h2' hlr hke h1 h1' h2
        generalize BA (encL (pieceP s arch i)) = C at *
        have hi := hi0
        go_wp2_with (at_builtin; refine wpList_append_own _ rfl (.tmp 49) (.tmp 54) _ rfl wF.heap.size 9 i0 _ 1 16 Tryz.underlying22 hi hz0 hz1 hz2 rfl (by omega) _ _ _ rfl (HO.out.alloc _) ⟨wr.heap.size, 0, none⟩ 1 1 [.string C] rfl rfl ?e1 ?e2 ?e3 ?e4 ?e5 ?_)
        case e1 =>
          intro j u hu
          match j, hu with
          | 0, hu => simp at hu; subst hu; go_cell
        case e2 =>
          intro u hu
          simp at hu
          subst hu; rfl
        case e3 => unfold maxLen; omega
        case e4 => omega
        case e5 => (have hc5 := hx.size; try simp at hc5); simp; omega
        intro v' w2 hown2 hgr _
        have hx3 := (hx.alloc (.cells #[.string C] 9)).grown hgr (fun k hk => (HO.out.lt k hk).1)
        have HO2 := Lib.hid hown2
        have HG := Lib.hid hgr
        clear hown2 hgr
        have HOs := Lib.hid (own_other (HOW.out.alloc (.cells #[.string C] 9)) (HO.out.alloc (.cells #[.string C] 9)) (by decide) HG.out)
        go_wp2_with fail
        go_roundw
        case rel => exact ⟨i + 1, by go_num, by omega, by rw [HLS.out, HVS.out]; exact HO2.out, by rw [HWS.out]; exact HOs.out, hx3⟩
        case measure => simp [intOf]; omega
    · obtain rfl : i = T := by omega
      obtain ⟨AL, cL, rfl, hlL⟩ := Lst.of_own HO.out
      obtain ⟨AW, cW, rfl, hlW⟩ := Lst.of_own HOW.out
      have hla := loss_load s arch lost bent k ha hk7 hs3 hsp (by rw [← HT.out]; exact hsT)
      have hrz := loss_size s arch lost bent k i hk7 (by rw [← HT.out]; exact Nat.le_refl _) hs3 hsp
      have hfl := framesL_len (lossRows s arch lost bent k i) arch
      have htot : ∀ l : List ByteArray, (∀ r ∈ l, r.size ≤ 1000) → totR l ≤ 1001 * l.length := by
        intro l
        induction l with
        | nil => intro _; simp [totR]
        | cons x l ih =>
          intro h
          have e : totR (x :: l) = (1 + x.size) + totR l := by simp [totR]
          rw [e, List.length_cons]
          have := ih (fun r hr => h r (List.mem_cons_of_mem _ hr))
          have := h x List.mem_cons_self
          omega
      have htt := htot _ hrz
      have hLD := load_any AL (lossRows s arch lost bent k i).length cL arch (lossRows s arch lost bent k i) wr (hE.ext (hx1.trans hx)) ha hlL (fun r hr => by have := hrz r hr; omega) (by omega)
      rw [← HT.out] at hla
      rw [hla] at hLD
      have hwz : wantN lost bent i = [] ↔ (wantN lost bent i).length = 0 := List.length_eq_zero_iff.symm
      have HLW := Lib.hid hlW
      have rW := hlW.room
      have mW := hlW.max
      unfold maxLen at mW
      have hx2 := hx1.trans hx
      clear hla hrz hfl htot htt hlL hlW HO HOW HCC HEZ HEL HT hk1 hll
      generalize lossRows s arch lost bent k i = LR at *
      generalize wantN lost bent i = M at *
      obtain ⟨N, hN⟩ : ∃ N, N = M.length := ⟨_, rfl⟩
      rw [← hN] at hLD hwl rW HLW hwz ⊢
      by_cases h1 : N = i
      · rw [if_pos h1] at hLD
        simp only at hLD
        rw [show BA [] = ⟨#[]⟩ from rfl] at hLD
        have HLD := Lib.hid hLD
        clear hLD hN hwz HLW
        subst h1
        go_wp2_with fail
        refine HLD.out.mono ?_
        rintro e w3 ⟨vm, rfl, hom, hx3⟩
        obtain ⟨Am, cm, rfl, -⟩ := Lst.of_own hom
        have hx13 := hx2.trans hx3
        clear hom
        simp only [List.length_nil]
        go_wp2_with fail
        refine (HW.out _ (hE.ext hx13)).mono ?_
        rintro e w6 ⟨rfl, hx6⟩
        go_wp2_with fail
        go_ret
        exact ⟨rfl, hx13.trans hx6⟩
      rw [if_neg h1] at hLD
      have hNi : ((N : Int) == (i : Int)) = false := by rw [beq_eq_false_iff_ne]; omega
      by_cases h2 : M = []
      · rw [if_pos h2] at hLD
        have h0 : N = 0 := hwz.1 h2
        simp only at hLD
        have HLD := Lib.hid hLD
        clear hLD hN hwz HLW h2
        subst h0
        generalize BA (fullB s).data.toList = F at *
        go_wp2_with fail
        refine HLD.out.mono ?_
        rintro e w3 ⟨vm, rfl, hom, hx3⟩
        obtain ⟨Am, cm, rfl, -⟩ := Lst.of_own hom
        have hx13 := hx2.trans hx3
        clear hom
        simp only [List.length_nil]
        go_wp2_with fail
        refine (HW.out _ (hE.ext hx13)).mono ?_
        rintro e w6 ⟨rfl, hx6⟩
        go_wp2_with fail
        go_ret
        exact ⟨rfl, hx13.trans hx6⟩
      · rw [if_neg h2] at hLD
        have h0 : 0 < N := by
          rcases Nat.eq_zero_or_pos N with h | h
          · exact absurd (hwz.2 h) h2
          · exact h
        simp only at hLD
        rw [show BA [] = ⟨#[]⟩ from rfl, ← hN] at hLD
        have HLD := Lib.hid hLD
        have HN := Lib.hid hN
        clear hLD hN hwz h2
        go_wp2_with fail
        refine HLD.out.mono ?_
        rintro e w3 ⟨vm, rfl, hom, hx3⟩
        rw [HN.out] at hom
        obtain ⟨Am, cm, rfl, hlm⟩ := Lst.of_own hom
        have hlm : Lst w3 Am N cm (intsN M) := by rw [HN.out]; exact hlm
        have HS := Lib.hid (rsameInts_any Am AW N cm cW M w3 hlm (HLW.out.ext hx3))
        rw [← HN.out] at hom ⊢
        have hx13 := hx2.trans hx3
        clear hom hlm
        go_wp2_with fail
        refine HS.out.mono ?_
        rintro e w4 ⟨rfl, hx4⟩
        have hx14 := hx13.trans hx4
        go_wp2_with fail
        refine (HW.out _ (hE.ext hx14)).mono ?_
        rintro e w6 ⟨rfl, hx6⟩
        go_wp2_with fail
        go_ret
        exact ⟨rfl, hx14.trans hx6⟩
end Go.Proofs.YtlkiaeelnbjchaaGreatDoor
