/- Contract of cells.Invert at one cell; the law PlainframeDamage returns true. (Layer 26) -/
import Derived.Test.YtboafongjbdmoaaDoorPfLawRT
import Derived.Test.YtboafongjbdmoaaDoorGrowS
import Derived.Test.YtboafongjbdmoaaDoorBytesMem
namespace Go.Proofs.YtboafongjbdmoaaDoor
open Go.RowKit
open Go.Lib hiding intOf
set_option linter.unusedVariables false
attribute [local simp] Slots Slot look Is Oper.looksAt Op.operands Call.operands

set_option maxHeartbeats 4000000 in
set_option maxRecDepth 100000 in
theorem inv_one (c : UInt8) (hc : c = 48 ∨ c = 49) (w : World) :
    Calls Tryd.prog 20 #[.string (BA [c])] w fun e w' => e = .returned (.string (BA [invC c])) ∧ Ext w w' := by
  have hcv := fun W => Lib.run_convert_string_bytes (P := Tryd.prog) W 9 40 5 (BA [c]) Tryd.underlying9 Tryd.underlying40 Tryd.underlying5
  have hbel := Lib.hid (bytesW_ext w 5 (BA [c]))
  have HR : Hid (ByteRow (Lib.bytesWorld w 5 (BA [c])) w.heap.size [c]) := ByteRow.new w 5 (BA [c])
  have hsz : (BA [c]).size = 1 := rfl
  have hb1 : bits .xor .u8 48 1 = 49 := by decide
  have hb2 : bits .xor .u8 49 1 = 48 := by decide
  have hst : ∀ (W : World) (B : Nat) (a b : UInt8), ByteRow W B [a] → ByteRow (W.setCell ⟨B, 0, none⟩ (.int .u8 (b.toNat : Int))) B [b] := fun W B a b h =>
    h.set 0 b (by simp) rfl rfl (fun i hi h0 => absurd (Nat.lt_one_iff.1 hi) h0)
  have HST := Lib.hid hst
  clear hst
  rcases hc with rfl | rfl
  · go_enter Tryd.func20, Tryd.ntmps20
    go_wp2_with fail
    generalize grownCap w 1 0 5 = cap
    generalize Lib.bytesWorld w 5 (BA [48]) = W0 at HR hbel ⊢
    clear hcv
    go_loopw [10] (fun i wr => (i = .int .i64 0 ∧ ByteRow wr w.heap.size [48] ∨ i = .int .i64 1 ∧ ByteRow wr w.heap.size [49]) ∧ Ext w wr) (fun i _ => 1 - (intOf i).toNat)
    case atStart => exact ⟨.inl ⟨rfl, HR.out⟩, hbel.out⟩
    case round =>
      obtain ⟨⟨rfl, hby⟩ | ⟨rfl, hby⟩, hx⟩ := hrel
      · have c0 := hby.cell 0 (by decide)
        have f0 := hby.free 0 (by decide)
        have HBY := Lib.hid hby
        clear hby
        have c0' : wr.cell? ⟨w.heap.size, 0, none⟩ = some (.int .u8 48) := c0
        go_wp2_with fail
        go_roundw
        case rel => exact ⟨.inr ⟨by go_num, HST.out wr w.heap.size 48 49 HBY.out⟩, hx.set (Nat.le_refl _) _⟩
        case measure => simp [intOf]
      · have hz : (convert 40 9 (.slice (some ⟨w.heap.size, 0, none⟩) 1 cap)).run Tryd.prog wr = .ok (.string (BA [49])) wr := hby.string cap
        clear hby
        go_wp2_with fail
        go_ret
        exact ⟨rfl, hx⟩
  · go_enter Tryd.func20, Tryd.ntmps20
    go_wp2_with fail
    generalize grownCap w 1 0 5 = cap
    generalize Lib.bytesWorld w 5 (BA [49]) = W0 at HR hbel ⊢
    clear hcv
    go_loopw [10] (fun i wr => (i = .int .i64 0 ∧ ByteRow wr w.heap.size [49] ∨ i = .int .i64 1 ∧ ByteRow wr w.heap.size [48]) ∧ Ext w wr) (fun i _ => 1 - (intOf i).toNat)
    case atStart => exact ⟨.inl ⟨rfl, HR.out⟩, hbel.out⟩
    case round =>
      obtain ⟨⟨rfl, hby⟩ | ⟨rfl, hby⟩, hx⟩ := hrel
      · have c0 := hby.cell 0 (by decide)
        have f0 := hby.free 0 (by decide)
        have HBY := Lib.hid hby
        clear hby
        have c0' : wr.cell? ⟨w.heap.size, 0, none⟩ = some (.int .u8 49) := c0
        go_wp2_with fail
        go_roundw
        case rel => exact ⟨.inr ⟨by go_num, HST.out wr w.heap.size 49 48 HBY.out⟩, hx.set (Nat.le_refl _) _⟩
        case measure => simp [intOf]
      · have hz : (convert 40 9 (.slice (some ⟨w.heap.size, 0, none⟩) 1 cap)).run Tryd.prog wr = .ok (.string (BA [48])) wr := hby.string cap
        clear hby
        go_wp2_with fail
        go_ret
        exact ⟨rfl, hx⟩

theorem zP_val : zP.val = .agg #[.int .u32 0, .int .i64 0, .int .i64 0, .string ⟨#[]⟩] := rfl
theorem pc_eqz (w : World) : (binOp .eql 31 (.agg #[.int .u32 0, .int .i64 0, .int .i64 0, .string ⟨#[]⟩]) (.agg #[.int .u32 0, .int .i64 0, .int .i64 0, .string ⟨#[]⟩])).run Tryd.prog w = .ok (.bool true) w := pc_eq 0 0 0 ⟨#[]⟩ w

theorem store_pc (ρ : Operand → Value) (o : Oper) (w : World) (b p v : Nat) (x0 x1 x2 x3 : Value) (a : Nat) (i t : Int) (s : ByteArray) (ho : o.op = .store 31 (.tmp p) (.tmp v)) (hp : ρ (.tmp p) = .pointer (some ⟨b, 0, none⟩))
    (hv : ρ (.tmp v) = .agg #[.int .u32 a, .int .i64 i, .int .i64 t, .string s]) (hb : Blk w b 31 [x0, x1, x2, x3]) :
    (execOp ρ o).run Tryd.prog w = .ok .skip ((((w.setCell ⟨b, 0, none⟩ (.int .u32 a)).setCell ⟨b, 1, none⟩ (.int .i64 i)).setCell ⟨b, 2, none⟩ (.int .i64 t)).setCell ⟨b, 3, none⟩ (.string s)) := by
  obtain ⟨c0, c1, c2, c3, f0, f1, f2, f3⟩ := four hb
  unfold execOp
  rw [ho]
  simp only [hp, hv]
  go_simp

set_option maxRecDepth 100000 in
set_option maxHeartbeats 3200000 in
theorem dmg_walk (a : Nat) (i t : Int) (s : ByteArray) (m : Nat) (w : World) (hs : s.size ≤ 200) (hm : m ≤ 65535) (hE : Env w) (S C : ByteArray) (c d : UInt8) (k : Nat) (hk : k = m % 752)
    (hA : ∀ W, Env W → Calls Tryd.prog 14 #[.agg #[.int .u32 a, .int .i64 i, .int .i64 t, .string s]] W fun e w' => e = .returned (.tuple #[.string S, .int .i64 0]) ∧ Ext W w')
    (hSz : S.size = 768) (hcut : S.extract 16 768 = C) (hCz : C.size = 752)
    (hI : ∀ W, Calls Tryd.prog 20 #[.string (C.extract k (k + 1))] W fun e w' => e = .returned (.string (BA [d])) ∧ Ext W w')
    (hD1 : ∀ W, Env W → Calls Tryd.prog 18 #[.string (C.extract 0 k ++ BA [d] ++ C.extract (k + 1) 752)] W fun e w' => e = .returned (.tuple #[.agg #[.int .u32 0, .int .i64 0, .int .i64 0, .string ⟨#[]⟩], .int .i64 5]) ∧ Ext W w')
    (hD2 : ∀ W, Env W → Calls Tryd.prog 18 #[.string (C.extract 0 k ++ ⟨#[63]⟩ ++ C.extract (k + 1) 752)] W fun e w' => e = .returned (.tuple #[.agg #[.int .u32 0, .int .i64 0, .int .i64 0, .string ⟨#[]⟩], .int .i64 11]) ∧ Ext W w') :
    Calls Tryd.prog 9 #[.agg #[.int .u32 a, .int .i64 i, .int .i64 t, .string s], .int .u16 m] w fun e w' => e = .returned (.bool true) ∧ Ext w w' := by
  have HW := Lib.hid (fun W (h : Env W) => awake_any W h)
  have hx0 : Ext w (w.alloc (.cells #[.int .u32 a, .int .i64 i, .int .i64 t, .string s] 31)) := (Ext.refl _).alloc _
  have hE0 := hE.ext hx0
  have HA := Lib.hid hA
  have HI := Lib.hid hI
  have HD1 := Lib.hid hD1
  have HD2 := Lib.hid hD2
  have hk7 : k < 752 := by omega
  have hmk : (m : Int) % 752 = (k : Int) := by omega
  have hq := pc_eqz
  have p0 : (C.extract 0 k).size = k := by rw [ByteArray.size_extract]; omega
  have p1 : (BA [d]).size = 1 := rfl
  have p2 : (C.extract (k + 1) 752).size = 751 - k := by rw [ByteArray.size_extract]; omega
  have p3 : (C.extract 0 k ++ BA [d]).size = k + 1 := by rw [ByteArray.size_append, p0, p1]
  clear hA hI hD1 hD2 hk
  go_enter Tryd.func9, Tryd.ntmps9
  go_wp2_with fail
  refine (HA.out _ hE0).mono ?_
  rintro e w1 ⟨rfl, hx1⟩
  have hx01 := hx0.trans hx1
  have hE1 := hE.ext hx01
  clear hx1 hx0 hE0
  go_wp2_with fail
  refine wp_region_store 20 rfl (by kernel_rfl) (by kernel_rfl) (by kernel_rfl) ?_
  repeat
    first
    | (apply grow_isS
       case hs => rfl
       case h =>
        intro a w1 hg hs hsl
        clear hs
        try simp at hsl
        try (first | (refine Exists.elim (row_spec hsl) ?_; rintro b ⟨hv, _, hh⟩) | (refine Exists.elim (row_spec hsl.1) ?_; rintro b ⟨hv, _, hh⟩))
        unfold growAt guardOk
        go_simp
        try go_bits
        try simp only [↓IntWalk.iteOmega]
        first
          | exact grow_same
          | exact is_skip
          | exact rfl
          | with_reducible exact grow_call_ext (HI.out _)
          | with_reducible exact grow_call_ext (HD1.out _ (hE1.ext hg)))
    | (refine grow_inS (Box w1 #[.int .u32 0, .int .i64 0, .int .i64 0, .string ⟨#[]⟩] 31) (Up.box _ _ _) rfl ?_ ?_
       · intro a w1 hg hs hsl
         clear hs
         try simp at hsl
         try (first | (refine Exists.elim (row_spec hsl) ?_; rintro b ⟨hv, _, hh⟩) | (refine Exists.elim (row_spec hsl.1) ?_; rintro b ⟨hv, _, hh⟩))
         unfold growAt guardOk
         go_simp
         try go_bits
         try simp only [↓IntWalk.iteOmega]
         with_reducible exact box_new hg)
    | (apply grow_st
       case hs => rfl
       case h =>
        intro a w1 hg hs hsl
        clear hs
        try simp at hsl
        refine Exists.elim hsl.1 ?_
        rintro b ⟨hv, _, hb⟩
        exact ⟨_, store_pc _ _ _ b 8 52 _ _ _ _ 0 0 0 ⟨#[]⟩ rfl (show a.tmps.getD 8 undef = _ by simpa using hv) (show a.tmps.getD 52 undef = _ by simpa using hsl.2) hb⟩)
  refine grow_finS ?_
  intro w1 hw1
  simp only [List.reverse_cons, List.reverse_nil, List.nil_append, List.cons_append, FinT, Is, forall_eq, List.setIfInBounds_toArray, List.set_cons_succ, List.set_cons_zero]
  intro v1 hv1
  obtain ⟨b1, rfl, hb1, hbk1⟩ := hv1
  refine ⟨_, store_pc _ _ _ b1 8 52 _ _ _ _ 0 0 0 ⟨#[]⟩ rfl rfl rfl hbk1, ?_⟩
  generalize hW : (((w1.setCell ⟨b1, 0, none⟩ (.int .u32 ((0 : Nat) : Int))).setCell ⟨b1, 1, none⟩ (.int .i64 0)).setCell ⟨b1, 2, none⟩ (.int .i64 0)).setCell ⟨b1, 3, none⟩ (.string ⟨#[]⟩) = W'
  obtain ⟨c0, c1, c2, c3, hx2⟩ := put_four hb1 hbk1 hw1 _ _ _ _ W' hW
  have hx02 := hx01.trans hx2
  have hE2 := hE.ext hx02
  clear hW hbk1 hw1 hx2 hE1
  have q3 : (C.extract 0 k ++ ⟨#[63]⟩).size = k + 1 := by rw [ByteArray.size_append, p0]; rfl
  go_wp2_with fail
  refine wp_region_store 14 rfl (by kernel_rfl) (by kernel_rfl) (by kernel_rfl) ?_
  repeat
    first
    | (apply grow_isS
       case hs => rfl
       case h =>
        intro a w1 hg hs hsl
        clear hs
        try simp at hsl
        try (first | (refine Exists.elim (row_spec hsl) ?_; rintro b ⟨hv, _, hh⟩) | (refine Exists.elim (row_spec hsl.1) ?_; rintro b ⟨hv, _, hh⟩))
        unfold growAt guardOk
        go_simp
        try go_bits
        try simp only [↓IntWalk.iteOmega]
        first
          | exact grow_same
          | exact is_skip
          | exact rfl
          | with_reducible exact grow_call_ext (HD2.out _ (hE2.ext hg)))
    | (refine grow_inS (Box W' #[.int .u32 0, .int .i64 0, .int .i64 0, .string ⟨#[]⟩] 31) (Up.box _ _ _) rfl ?_ ?_
       · intro a w1 hg hs hsl
         clear hs
         try simp at hsl
         try (first | (refine Exists.elim (row_spec hsl) ?_; rintro b ⟨hv, _, hh⟩) | (refine Exists.elim (row_spec hsl.1) ?_; rintro b ⟨hv, _, hh⟩))
         unfold growAt guardOk
         go_simp
         try go_bits
         try simp only [↓IntWalk.iteOmega]
         with_reducible exact box_new hg)
    | (apply grow_st
       case hs => rfl
       case h =>
        intro a w1 hg hs hsl
        clear hs
        try simp at hsl
        refine Exists.elim hsl.1 ?_
        rintro b ⟨hv, _, hb⟩
        exact ⟨_, store_pc _ _ _ b 10 65 _ _ _ _ 0 0 0 ⟨#[]⟩ rfl (show a.tmps.getD 10 undef = _ by simpa using hv) (show a.tmps.getD 65 undef = _ by simpa using hsl.2) hb⟩)
  refine grow_finS ?_
  intro w1 hw1
  simp only [List.reverse_cons, List.reverse_nil, List.nil_append, List.cons_append, FinT, Is, forall_eq, List.setIfInBounds_toArray, List.set_cons_succ, List.set_cons_zero]
  intro v1 hv1
  rename_i w3
  obtain ⟨b2, rfl, hb2, hbk2⟩ := hv1
  refine ⟨_, store_pc _ _ _ b2 10 65 _ _ _ _ 0 0 0 ⟨#[]⟩ rfl rfl rfl hbk2, ?_⟩
  generalize hW : (((w1.setCell ⟨b2, 0, none⟩ (.int .u32 ((0 : Nat) : Int))).setCell ⟨b2, 1, none⟩ (.int .i64 0)).setCell ⟨b2, 2, none⟩ (.int .i64 0)).setCell ⟨b2, 3, none⟩ (.string ⟨#[]⟩) = W''
  obtain ⟨d0, d1, d2, d3, hx3⟩ := put_four hb2 hbk2 hw1 _ _ _ _ W'' hW
  have c0 : W''.cell? ⟨b1, 0, none⟩ = some (.int .u32 0) := hx3.cell c0
  have d0 : W''.cell? ⟨b2, 0, none⟩ = some (.int .u32 0) := d0
  have c1 := hx3.cell c1
  have c2 := hx3.cell c2
  have c3 := hx3.cell c3
  have hx03 := hx02.trans hx3
  have hE3 := hE.ext hx03
  clear hW hbk2 hw1 hx3 hE2
  go_wp2_with fail
  refine (HW.out _ hE3).mono ?_
  rintro e w4 ⟨rfl, hx4⟩
  go_wp2_with fail
  go_ret
  exact ⟨rfl, hx03.trans hx4⟩

set_option maxRecDepth 100000 in
set_option maxHeartbeats 1600000 in
theorem lawDmg_any (a : Nat) (i t : Int) (s : ByteArray) (m : Nat) (w : World) (hs : s.size ≤ maxLen) (ha : a < 4294967296) (hm : m ≤ 65535) (hE : Env w) :
    Calls Tryd.prog 9 #[.agg #[.int .u32 a, .int .i64 i, .int .i64 t, .string s], .int .u16 m] w fun e w' => e = .returned (.bool true) ∧ Ext w w' := by
  have HW := Lib.hid (fun W (h : Env W) => awake_any W h)
  have hs' := hs
  unfold maxLen at hs
  have hx0 : Ext w (w.alloc (.cells #[.int .u32 a, .int .i64 i, .int .i64 t, .string s] 31)) := (Ext.refl _).alloc _
  have hE0 := hE.ext hx0
  by_cases h6 : (200 : Int) < s.size
  · go_enter Tryd.func9, Tryd.ntmps9
    go_wp2_with fail
    refine (HW.out _ hE0).mono ?_
    rintro e w1 ⟨rfl, hx⟩
    go_wp2_with fail
    go_ret
    exact ⟨rfl, hx0.trans hx⟩
  have hA : ∀ W, Env W → Calls Tryd.prog 14 #[.agg #[.int .u32 a, .int .i64 i, .int .i64 t, .string s]] W fun e w' => e = .returned (.tuple #[.string (BA (encodeA ⟨a, i, t, s⟩).1), .int .i64 (encodeA ⟨a, i, t, s⟩).2]) ∧ Ext W w' := fun W h => encode_any ⟨a, i, t, s⟩ W ha hs' h
  unfold encodeA at hA
  by_cases hc : checkZ i t s = 0
  rotate_left
  · rw [if_neg (show ¬ checkZ (⟨a, i, t, s⟩ : Pc).index (⟨a, i, t, s⟩ : Pc).total (⟨a, i, t, s⟩ : Pc).text = 0 from hc)] at hA
    simp only at hA
    have hE0' : (checkZ i t s == 0) = false := by simpa using hc
    have hE1' : (checkZ i t s != 0) = true := by simpa using hc
    generalize checkZ i t s = E at *
    have HA : Hid (∀ W, Env W → Calls Tryd.prog 14 #[.agg #[.int .u32 a, .int .i64 i, .int .i64 t, .string s]] W fun e w' => e = .returned (.tuple #[.string ⟨#[]⟩, .int .i64 E]) ∧ Ext W w') := hA
    clear hA
    go_enter Tryd.func9, Tryd.ntmps9
    go_wp2_with fail
    refine (HA.out _ hE0).mono ?_
    rintro e w1 ⟨rfl, hx1⟩
    have hx01 := hx0.trans hx1
    go_wp2_with fail
    refine (HW.out _ (hE.ext hx01)).mono ?_
    rintro e w3 ⟨rfl, hx3⟩
    go_wp2_with fail
    go_ret
    exact ⟨rfl, hx01.trans hx3⟩
  rw [if_pos (show checkZ (⟨a, i, t, s⟩ : Pc).index (⟨a, i, t, s⟩ : Pc).total (⟨a, i, t, s⟩ : Pc).text = 0 from hc)] at hA
  simp only at hA
  have h64 := (check_ok hc).2.2.2.2.1
  obtain ⟨hz, hcut, hpl⟩ := enc_cut ⟨a, i, t, s⟩ h64
  have hl := head_len (p := ⟨a, i, t, s⟩) h64
  have hCl := cells_len (p := ⟨a, i, t, s⟩) h64
  have hk : m % 752 < 752 := Nat.mod_lt _ (by decide)
  generalize hL : headB ⟨a, i, t, s⟩ = L at *
  obtain ⟨c, hcg⟩ : ∃ c, (cellsB (sealB L))[m % 752]? = some c := ⟨_, List.getElem?_eq_getElem (by omega)⟩
  have hcm : c = 48 ∨ c = 49 := cells_mem _ _ (List.mem_of_getElem? hcg)
  have d1 := decode_inv L hl _ hk c hcg
  have d2 := decode_open (cellsB (sealB L)) hCl (cells_mem _) _ hk
  have hX : ∀ d : UInt8, (BA (cellsB (sealB L))).extract 0 (m % 752) ++ BA [d] ++ (BA (cellsB (sealB L))).extract (m % 752 + 1) 752 = BA ((cellsB (sealB L)).take (m % 752) ++ [d] ++ (cellsB (sealB L)).drop (m % 752 + 1)) := by
    intro d
    rw [ext_take _ _ _ (by omega), ext_take _ _ _ (by omega), ← BA_append, ← BA_append, List.drop_zero, Nat.sub_zero, List.take_of_length_le (l := (cellsB (sealB L)).drop (m % 752 + 1)) (by rw [List.length_drop]; omega)]
  have hzD : ∀ d : UInt8, (BA ((cellsB (sealB L)).take (m % 752) ++ [d] ++ (cellsB (sealB L)).drop (m % 752 + 1))).size ≤ maxLen := by
    intro d
    rw [BA_size, List.length_append, List.length_append, List.length_take, List.length_drop]
    unfold maxLen
    simp
    omega
  have e1 : (BA (cellsB (sealB L))).extract (m % 752) (m % 752 + 1) = BA [c] := by
    rw [ext_take _ _ _ (by omega), Nat.add_sub_cancel_left, List.drop_eq_getElem_cons (show m % 752 < (cellsB (sealB L)).length by omega)]
    rw [List.getElem?_eq_getElem (by omega)] at hcg
    have hcg := Option.some.inj hcg
    rw [hcg]; rfl
  refine dmg_walk a i t s m w (by omega) hm hE (BA (encL ⟨a, i, t, s⟩)) (BA (cellsB (sealB L))) c (invC c) (m % 752) rfl hA hz hcut (by rw [BA_size]; exact hCl) (fun W => by rw [e1]; exact inv_one c hcm W) (fun W hW => ?_) (fun W hW => ?_)
  · have := decode_any (BA ((cellsB (sealB L)).take (m % 752) ++ [invC c] ++ (cellsB (sealB L)).drop (m % 752 + 1))) W (hzD _) hW
    rw [BA_data, d1] at this
    dsimp only at this
    rw [zP_val] at this
    rw [hX]
    exact this
  · have := decode_any (BA ((cellsB (sealB L)).take (m % 752) ++ [63] ++ (cellsB (sealB L)).drop (m % 752 + 1))) W (hzD _) hW
    rw [BA_data, d2] at this
    dsimp only at this
    rw [zP_val] at this
    rw [show (⟨#[63]⟩ : ByteArray) = BA [63] from rfl, hX]
    exact this
end Go.Proofs.YtboafongjbdmoaaDoor
