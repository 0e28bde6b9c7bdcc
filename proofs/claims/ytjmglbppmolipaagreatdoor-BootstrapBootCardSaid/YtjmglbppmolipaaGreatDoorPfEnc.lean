/- Contracts: Encode of the library and of the reference, the reference's Text. (Layer 26) -/
import Derived.Test.YtjmglbppmolipaaGreatDoorPfDig
import Derived.Test.YtjmglbppmolipaaGreatDoorPfCheck
import Derived.Test.YtjmglbppmolipaaGreatDoorPfCells
namespace Go.Proofs.YtjmglbppmolipaaGreatDoor
open Go.RowKit
open Go.Lib hiding intOf
set_option linter.unusedVariables false
attribute [local simp] Slots Slot look Is Oper.looksAt Op.operands Call.operands

/-- a plain frame -/
structure Pc where
  arch : Nat
  index : Int
  total : Int
  text : ByteArray
def Pc.cells (p : Pc) : List Value := [.int .u32 p.arch, .int .i64 p.index, .int .i64 p.total, .string p.text]
def Pc.val (p : Pc) : Value := .agg #[.int .u32 p.arch, .int .i64 p.index, .int .i64 p.total, .string p.text]
/-- the 84 characters of a frame ahead of the seal -/
def headB (p : Pc) : List UInt8 := lowD 10 p.arch ++ lowD 5 p.index.toNat ++ lowD 5 p.total.toNat ++ p.text.data.toList
abbrev plainM : List UInt8 := [48, 48, 48, 48, 48, 49, 49, 48, 48, 49, 48, 49, 48, 49, 49, 49]
/-- the cells of a frame -/
def encL (p : Pc) : List UInt8 := plainM ++ cellsB (sealB (headB p))
def encodeA (p : Pc) : List UInt8 × Int := if checkZ p.index p.total p.text = 0 then (encL p, 0) else ([], checkZ p.index p.total p.text)

theorem check_ok {i t : Int} {s : ByteArray} (h : checkZ i t s = 0) : 1 ≤ t ∧ t ≤ 99999 ∧ 0 ≤ i ∧ i < t ∧ s.size = 64 ∧ prB s.data.toList = true := by
  unfold checkZ at h
  split at h
  · cases h
  · split at h
    · cases h
    · rename_i h1 h2
      refine ⟨by omega, by omega, by omega, by omega, Decidable.of_not_not (fun e => h2 (.inl e)), ?_⟩
      rw [← Bool.not_eq_false]
      exact fun e => h2 (.inr e)
theorem check_ne (i t : Int) (s : ByteArray) (h : checkZ i t s ≠ 0) : checkZ i t s = 1 ∨ checkZ i t s = 2 := by
  unfold checkZ at h ⊢
  split at h
  · rw [if_pos (by assumption)]; exact .inr rfl
  · split at h
    · rw [if_neg (by assumption), if_pos (by assumption)]; exact .inl rfl
    · exact absurd rfl h

set_option maxRecDepth 100000 in
set_option maxHeartbeats 1600000 in
theorem text_any (p : Pc) (w : World) (ha : p.arch < 4294967296) (h1 : 0 ≤ p.index) (h2 : p.index ≤ 99999) (h3 : 0 ≤ p.total) (h4 : p.total ≤ 99999) (hs : p.text.size = 64) :
    Calls Tryz.prog 61 #[p.val] w fun e w' => e = .returned (.string (BA (sealB (headB p)))) ∧ Ext w w' := by
  obtain ⟨a, i, t, s⟩ := p
  simp only [Pc.val] at *
  obtain ⟨i, rfl⟩ := Int.eq_ofNat_of_zero_le h1
  obtain ⟨t, rfl⟩ := Int.eq_ofNat_of_zero_le h3
  have hD1 := fun W => rdigits_any 10 a (by omega) (by omega) W
  have hD2 := fun W => rdigits_any 5 i (by omega) (by omega) W
  have hD3 := fun W => rdigits_any 5 t (by omega) (by omega) W
  have hSL : (headB ⟨a, (i : Int), (t : Int), s⟩).length = 84 := by
    unfold headB
    rw [List.length_append, List.length_append, List.length_append, lowD_len, lowD_len, lowD_len]
    show 10 + 5 + 5 + s.size = 84
    omega
  have hS := fun W => rseal_any (headB ⟨a, (i : Int), (t : Int), s⟩) W (by omega)
  have hT : BA (headB ⟨a, (i : Int), (t : Int), s⟩) = BA (lowD 10 a) ++ BA (lowD 5 i) ++ BA (lowD 5 t) ++ s := by
    unfold headB
    rw [BA_append, BA_append, BA_append, Int.toNat_natCast, Int.toNat_natCast, BA_of]
  have hR : BA (sealB (headB ⟨a, (i : Int), (t : Int), s⟩)) = BA (headB ⟨a, (i : Int), (t : Int), s⟩) ++ BA (lowD 10 (crcS (headB ⟨a, (i : Int), (t : Int), s⟩))) := by unfold sealB; rw [BA_append]
  rw [hR]
  have hz0 : (BA (headB ⟨a, (i : Int), (t : Int), s⟩)).size = 84 := by rw [BA_size]; exact hSL
  have hz1 : (BA (lowD 10 a)).size = 10 := by rw [BA_size, lowD_len]
  have hz2 : (BA (lowD 5 i)).size = 5 := by rw [BA_size, lowD_len]
  have hz3 : (BA (lowD 5 t)).size = 5 := by rw [BA_size, lowD_len]
  have hz4 : (BA (lowD 10 (crcS (headB ⟨a, (i : Int), (t : Int), s⟩)))).size = 10 := by rw [BA_size, lowD_len]
  clear hR hSL
  generalize BA (headB ⟨a, (i : Int), (t : Int), s⟩) = T at *
  generalize BA (lowD 10 (crcS (headB ⟨a, (i : Int), (t : Int), s⟩))) = X0 at *
  generalize BA (lowD 10 a) = X1 at *
  generalize BA (lowD 5 i) = X2 at *
  generalize BA (lowD 5 t) = X3 at *
  have D1 := Lib.hid hD1
  have D2 := Lib.hid hD2
  have D3 := Lib.hid hD3
  have HS := Lib.hid hS
  have HT := Lib.hid hT
  clear hD1 hD2 hD3 hS hT
  go_enter Tryz.func61, Tryz.ntmps61
  go_wp2_with fail
  obtain ⟨W0, hW⟩ : ∃ W0, W0 = w.alloc (.cells #[.int .u32 a, .int .i64 i, .int .i64 t, .string s] 57) := ⟨_, rfl⟩
  have hc0 : W0.cell? ⟨w.heap.size, 0, none⟩ = some (.int .u32 a) := by rw [hW]; go_cell
  have hc1 : W0.cell? ⟨w.heap.size, 1, none⟩ = some (.int .i64 i) := by rw [hW]; go_cell
  have hc2 : W0.cell? ⟨w.heap.size, 2, none⟩ = some (.int .i64 t) := by rw [hW]; go_cell
  have hc3 : W0.cell? ⟨w.heap.size, 3, none⟩ = some (.string s) := by rw [hW]; go_cell
  have hx0 : Ext w W0 := by rw [hW]; exact (Ext.refl _).alloc _
  rw [← hW]
  clear hW
  generalize w.heap.size = bb at *
  refine wp_region_grow (by kernel_rfl) (by kernel_rfl) ?_
  repeat
    first
    | (apply grow_is
       case h =>
        intro a w1 hg hs hsl
        clear hs
        try simp at hsl
        try (first | (refine Exists.elim (row_spec hsl) ?_; rintro b ⟨hv, _, hh⟩) | (refine Exists.elim (row_spec hsl.1) ?_; rintro b ⟨hv, _, hh⟩))
        have hc0 := hg.cell hc0
        have hc1 := hg.cell hc1
        have hc2 := hg.cell hc2
        have hc3 := hg.cell hc3
        unfold growAt guardOk
        go_simp
        try go_bits
        try simp only [↓IntWalk.iteOmega]
        first
          | exact grow_same
          | exact is_skip
          | exact rfl
          | with_reducible exact grow_call_ext (D1.out _)
          | with_reducible exact grow_call_ext (D2.out _)
          | with_reducible exact grow_call_ext (D3.out _))
  refine grow_fin ?_
  intro w1 hw1
  simp only [List.reverse_cons, List.reverse_nil, List.nil_append, List.cons_append, FinT, Is, forall_eq, List.setIfInBounds_toArray, List.set_cons_succ, List.set_cons_zero]
  rw [← HT.out]
  go_wp2_with fail
  refine (HS.out _).mono ?_
  rintro e w2 ⟨rfl, hx2⟩
  go_wp2_with fail
  go_ret
  exact ⟨rfl, (hx0.trans hw1).trans hx2⟩

theorem mark_any (w : World) : Calls Tryz.prog 49 #[] w fun e w' => e = .returned (.string (BA plainM)) ∧ w = w' := by
  go_enter Tryz.func49, Tryz.ntmps49
  go_wp2_with fail
  go_ret
  exact ⟨rfl, rfl⟩
theorem rmark_any (w : World) : Calls Tryz.prog 59 #[] w fun e w' => e = .returned (.string (BA plainM)) ∧ w = w' := by
  go_enter Tryz.func59, Tryz.ntmps59
  go_wp2_with fail
  go_ret
  exact ⟨rfl, rfl⟩

theorem head_len {p : Pc} (h : p.text.size = 64) : (headB p).length = 84 := by
  unfold headB
  rw [List.length_append, List.length_append, List.length_append, lowD_len, lowD_len, lowD_len]
  show 10 + 5 + 5 + p.text.size = 84
  omega
theorem seal_len {p : Pc} (h : p.text.size = 64) : (sealB (headB p)).length = 94 := by rw [sealB_len, head_len h]
theorem cells_len {p : Pc} (h : p.text.size = 64) : (cellsB (sealB (headB p))).length = 752 := by rw [cellsB_len, seal_len h]

set_option maxRecDepth 100000 in
set_option maxHeartbeats 1600000 in
theorem rencode_any (p : Pc) (w : World) (ha : p.arch < 4294967296) (hs : p.text.size ≤ maxLen) :
    Calls Tryz.prog 36 #[p.val] w fun e w' => e = .returned (.tuple #[.string (BA (encodeA p).1), .int .i64 (encodeA p).2]) ∧ Ext w w' := by
  have hck := fun W => rpcheck_any p.arch p.index p.total p.text W hs
  unfold encodeA
  by_cases h0 : checkZ p.index p.total p.text = 0
  · rw [if_pos h0]
    obtain ⟨k1, k2, k3, k4, k5, k6⟩ := check_ok h0
    rw [h0] at hck
    have hT := fun W => text_any p W ha k3 (by omega) (by omega) k2 k5
    have hF := fun W => rfromBytes_any (BA (sealB (headB p))) W (by rw [BA_size, seal_len k5]; omega)
    have hM := fun W => rmark_any W
    have hr : BA (encL p) = BA plainM ++ BA (cellsB (sealB (headB p))) := by unfold encL; rw [BA_append]
    have hz : (BA (cellsB (sealB (headB p)))).size = 752 := by rw [BA_size, cells_len k5]
    have hz2 : (BA plainM).size = 16 := rfl
    rw [BA_data] at hF
    simp only [hr]
    generalize BA (cellsB (sealB (headB p))) = C at *
    generalize BA (sealB (headB p)) = S at *
    generalize BA plainM = M at *
    obtain ⟨a, i, t, s⟩ := p
    simp only [Pc.val] at *
    have HCK := Lib.hid hck
    have HT := Lib.hid hT
    have HF := Lib.hid hF
    have HM := Lib.hid hM
    clear hck hT hF hM hr h0 k1 k2 k3 k4 k5 k6
    go_enter Tryz.func36, Tryz.ntmps36
    go_wp2_with fail
    refine (HCK.out _).mono ?_
    rintro e w1 ⟨rfl, hx1⟩
    have hx0 : Ext w w1 := ((Ext.refl _).alloc _).trans hx1
    have hc0 : w1.cell? ⟨w.heap.size, 0, none⟩ = some (.int .u32 a) := hx1.cell (by go_cell)
    have hc1 : w1.cell? ⟨w.heap.size, 1, none⟩ = some (.int .i64 i) := hx1.cell (by go_cell)
    have hc2 : w1.cell? ⟨w.heap.size, 2, none⟩ = some (.int .i64 t) := hx1.cell (by go_cell)
    have hc3 : w1.cell? ⟨w.heap.size, 3, none⟩ = some (.string s) := hx1.cell (by go_cell)
    clear hx1
    generalize w.heap.size = bb at *
    go_wp2_with fail
    refine wp_region_grow (by kernel_rfl) (by kernel_rfl) ?_
    repeat
      first
      | (apply grow_is
         case h =>
          intro a w1 hg hs hsl
          clear hs
          try simp at hsl
          try (first | (refine Exists.elim (row_spec hsl) ?_; rintro b ⟨hv, _, hh⟩) | (refine Exists.elim (row_spec hsl.1) ?_; rintro b ⟨hv, _, hh⟩))
          have hc0 := hg.cell hc0
          have hc1 := hg.cell hc1
          have hc2 := hg.cell hc2
          have hc3 := hg.cell hc3
          unfold growAt guardOk
          go_simp
          try go_bits
          try simp only [↓IntWalk.iteOmega]
          first
            | exact grow_same
            | exact is_skip
            | exact rfl
            | with_reducible exact grow_call_same (HM.out _)
            | with_reducible exact grow_call_ext (HT.out _)
            | with_reducible exact grow_call_ext (HF.out _))
    refine grow_fin ?_
    intro w1 hw1
    simp only [List.reverse_cons, List.reverse_nil, List.nil_append, List.cons_append, FinT, Is, forall_eq, List.setIfInBounds_toArray, List.set_cons_succ, List.set_cons_zero]
    go_wp2_with fail
    refine bodyPost_ret (v := .tuple #[.string (M ++ C), .int .i64 0]) (by simp [results, Tryz.results36, go_sem]) rfl ⟨rfl, ?_⟩
    exact hx0.trans hw1
  · rw [if_neg h0]
    obtain ⟨a, i, t, s⟩ := p
    simp only [Pc.val] at *
    have hb : (checkZ i t s != 0) = true := bne_iff_ne.2 h0
    generalize checkZ i t s = z at *
    have HCK := Lib.hid hck
    clear hck h0
    go_enter Tryz.func36, Tryz.ntmps36
    go_wp2_with fail
    refine (HCK.out _).mono ?_
    rintro e w1 ⟨rfl, hx1⟩
    go_wp2_with fail
    refine bodyPost_ret (v := .tuple #[.string ⟨#[]⟩, .int .i64 z]) (by simp [results, Tryz.results36, go_sem]) rfl ⟨rfl, ?_⟩
    exact ((Ext.refl _).alloc _).trans hx1

set_option maxRecDepth 100000 in
set_option maxHeartbeats 3200000 in
theorem encode_any (p : Pc) (w : World) (ha : p.arch < 4294967296) (hs : p.text.size ≤ maxLen) (hE : Env w) :
    Calls Tryz.prog 28 #[p.val] w fun e w' => e = .returned (.tuple #[.string (BA (encodeA p).1), .int .i64 (encodeA p).2]) ∧ Ext w w' := by
  have hck := fun W => pcheck_any p.arch p.index p.total p.text W hs
  unfold encodeA
  by_cases h0 : checkZ p.index p.total p.text = 0
  · rw [if_pos h0]
    obtain ⟨k1, k2, k3, k4, k5, k6⟩ := check_ok h0
    rw [h0] at hck
    have hF := fun W => fromBytes_any (BA (sealB (headB p))) W (by rw [BA_size, seal_len k5]; omega)
    have hS := fun W (h : Env W) => seal_any (headB p) W (by rw [head_len k5]; omega) h
    have hr : BA (encL p) = BA plainM ++ BA (cellsB (sealB (headB p))) := by unfold encL; rw [BA_append]
    have hz : (BA (cellsB (sealB (headB p)))).size = 752 := by rw [BA_size, cells_len k5]
    have hz2 : (BA plainM).size = 16 := rfl
    rw [BA_data] at hF
    simp only [hr]
    generalize BA (cellsB (sealB (headB p))) = C at *
    generalize BA (sealB (headB p)) = S at *
    have hT : BA (headB p) = BA (lowD 10 p.arch) ++ BA (lowD 5 p.index.toNat) ++ BA (lowD 5 p.total.toNat) ++ p.text := by
      unfold headB
      rw [BA_append, BA_append, BA_append, BA_of]
    generalize BA (headB p) = T at *
    have hM := fun W => mark_any W
    generalize BA plainM = M at *
    obtain ⟨a, i, t, s⟩ := p
    simp only [Pc.val] at *
    obtain ⟨i, rfl⟩ := Int.eq_ofNat_of_zero_le k3
    obtain ⟨t, rfl⟩ := Int.eq_ofNat_of_zero_le (show 0 ≤ t by omega)
    rw [Int.toNat_natCast, Int.toNat_natCast] at hT
    have f1 := fun W bx (h1 : Env W) (h2 : W.cell? ⟨bx, 0, none⟩ = some (.int .i64 10)) => format_any 10 a bx (by omega) (by omega) W h1 h2
    have f2 := fun W bx (h1 : Env W) (h2 : W.cell? ⟨bx, 0, none⟩ = some (.int .i64 5)) => format_any 5 i bx (by omega) (by omega) W h1 h2
    have f3 := fun W bx (h1 : Env W) (h2 : W.cell? ⟨bx, 0, none⟩ = some (.int .i64 5)) => format_any 5 t bx (by omega) (by omega) W h1 h2
    have hs64 : s.size ≤ 64 := Nat.le_of_eq k5
    clear k5
    have hi9 : i ≤ 99999 := by omega
    have ht9 : t ≤ 99999 := by omega
    rw [← lowD_pad 9 a (by omega)] at f1
    rw [← lowD_pad 4 i (by omega)] at f2
    rw [← lowD_pad 4 t (by omega)] at f3
    have hz3 : (BA (lowD 10 a)).size = 10 := by rw [BA_size, lowD_len]
    have hz4 : (BA (lowD 5 i)).size = 5 := by rw [BA_size, lowD_len]
    have hz5 : (BA (lowD 5 t)).size = 5 := by rw [BA_size, lowD_len]
    generalize BA (lowD 10 a) = X1 at *
    generalize BA (lowD (4 + 1) i) = X2 at *
    generalize BA (lowD (4 + 1) t) = X3 at *
    have hG1 := fun W => digits_any 10 W
    have hG2 := fun W => digits_any 5 W
    have HCK := Lib.hid hck
    have HF := Lib.hid hF
    have HM := Lib.hid hM
    have HS := Lib.hid hS
    have HT := Lib.hid hT
    have F1 := Lib.hid f1
    have F2 := Lib.hid f2
    have F3 := Lib.hid f3
    have G1 := Lib.hid hG1
    have G2 := Lib.hid hG2
    clear hck hT hF hM hS f1 f2 f3 hG1 hG2 hr h0 k1 k3 k4 k6
    go_enter Tryz.func28, Tryz.ntmps28
    go_wp2_with fail
    refine (HCK.out _).mono ?_
    rintro e w1 ⟨rfl, hx1⟩
    have hx0 : Ext w w1 := ((Ext.refl _).alloc _).trans hx1
    have hc0 : w1.cell? ⟨w.heap.size, 0, none⟩ = some (.int .u32 a) := hx1.cell (by go_cell)
    have hc1 : w1.cell? ⟨w.heap.size, 1, none⟩ = some (.int .i64 i) := hx1.cell (by go_cell)
    have hc2 : w1.cell? ⟨w.heap.size, 2, none⟩ = some (.int .i64 t) := hx1.cell (by go_cell)
    have hc3 : w1.cell? ⟨w.heap.size, 3, none⟩ = some (.string s) := hx1.cell (by go_cell)
    have hE1 := hE.ext hx0
    clear hx1
    generalize w.heap.size = bb at *
    go_wp2_with fail
    refine (G1.out _).mono ?_
    rintro e w2 ⟨rfl, rfl⟩
    go_wp2_with fail
    refine (G2.out _).mono ?_
    rintro e w2 ⟨rfl, rfl⟩
    go_wp2_with fail
    obtain ⟨W2, hW⟩ : ∃ W2, W2 = (w1.alloc (.cells #[.int .i64 10] 3)).alloc (.cells #[.int .i64 5] 3) := ⟨_, rfl⟩
    have hx2 : Ext w1 W2 := by rw [hW]; exact ((Ext.refl _).alloc _).alloc _
    have hb1 : W2.cell? ⟨w1.heap.size, 0, none⟩ = some (.int .i64 10) := by rw [hW]; go_cell
    have hb2 : W2.cell? ⟨w1.heap.size + 1, 0, none⟩ = some (.int .i64 5) := by rw [hW]; go_cell
    have hc0 := hx2.cell hc0
    have hc1 := hx2.cell hc1
    have hc2 := hx2.cell hc2
    have hc3 := hx2.cell hc3
    have hE2 := hE1.ext hx2
    have hx02 := hx0.trans hx2
    rw [← hW]
    clear hW hx2 hx0 hE1
    generalize w1.heap.size + 1 = b2 at *
    generalize w1.heap.size = b1 at *
    refine wp_region_grow (by kernel_rfl) (by kernel_rfl) ?_
    repeat
      first
      | (apply grow_is
         case h =>
          intro a w1 hg hs hsl
          clear hs
          try simp at hsl
          try (first | (refine Exists.elim (row_spec hsl) ?_; rintro b ⟨hv, _, hh⟩) | (refine Exists.elim (row_spec hsl.1) ?_; rintro b ⟨hv, _, hh⟩))
          have hc0 := hg.cell hc0
          have hc1 := hg.cell hc1
          have hc2 := hg.cell hc2
          have hc3 := hg.cell hc3
          unfold growAt guardOk
          go_simp
          try go_bits
          try simp only [↓IntWalk.iteOmega]
          first
            | exact grow_same
            | exact is_skip
            | exact rfl
            | with_reducible exact grow_call_ext (F1.out _ _ (hE2.ext hg) (hg.cell hb1))
            | with_reducible exact grow_call_ext (F2.out _ _ (hE2.ext hg) (hg.cell hb2))
            | with_reducible exact grow_call_ext (F3.out _ _ (hE2.ext hg) (hg.cell hb2)))
    refine grow_fin ?_
    intro w1 hw1
    simp only [List.reverse_cons, List.reverse_nil, List.nil_append, List.cons_append, FinT, Is, forall_eq, List.setIfInBounds_toArray, List.set_cons_succ, List.set_cons_zero]
    rw [← HT.out]
    have hE3 := hE2.ext hw1
    go_wp2_with fail
    refine (HM.out _).mono ?_
    rintro e w4 ⟨rfl, rfl⟩
    go_wp2_with fail
    refine (HS.out _ hE3).mono ?_
    rintro e w5 ⟨rfl, hx5⟩
    go_wp2_with fail
    refine (HF.out _).mono ?_
    rintro e w6 ⟨rfl, hx6⟩
    go_wp2_with fail
    refine bodyPost_ret (v := .tuple #[.string (M ++ C), .int .i64 0]) (by simp [results, Tryz.results28, go_sem]) rfl ⟨rfl, ?_⟩
    exact ((hx02.trans hw1).trans hx5).trans hx6
  · rw [if_neg h0]
    obtain ⟨a, i, t, s⟩ := p
    simp only [Pc.val] at *
    have hb : (checkZ i t s != 0) = true := bne_iff_ne.2 h0
    generalize checkZ i t s = z at *
    have HCK := Lib.hid hck
    clear hck h0
    go_enter Tryz.func28, Tryz.ntmps28
    go_wp2_with fail
    refine (HCK.out _).mono ?_
    rintro e w1 ⟨rfl, hx1⟩
    go_wp2_with fail
    refine bodyPost_ret (v := .tuple #[.string ⟨#[]⟩, .int .i64 z]) (by simp [results, Tryz.results28, go_sem]) rfl ⟨rfl, ?_⟩
    exact ((Ext.refl _).alloc _).trans hx1
end Go.Proofs.YtjmglbppmolipaaGreatDoor
