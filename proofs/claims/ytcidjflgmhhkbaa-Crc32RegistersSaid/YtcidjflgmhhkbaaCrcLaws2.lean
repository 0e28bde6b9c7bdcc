/- The walks of Crc32Parts, Crc32Registers, Crc32Affine, Crc32Bursts: each returns true and changes nothing that was there. -/
import Derived.Test.YtcidjflgmhhkbaaCrcLaws
import Derived.Test.YtcidjflgmhhkbaaGrow
import Derived.Laws.MakeOwn
namespace Go.Proofs.Ytcidjflgmhhkbaa
open Go.RowKit
set_option linter.unusedVariables false
attribute [local simp] Slots Slot look Is Oper.looksAt Op.operands Call.operands
theorem cut_join (s : ByteArray) (k : Nat) : (s.extract 0 k).data.toList ++ (s.extract k s.size).data.toList = s.data.toList := by
  have h2 : s.data.toList.length = s.size := rfl
  simp only [ByteArray.data_extract, Array.toList_extract, List.extract_eq_take_drop]
  rw [Nat.sub_zero, List.drop_zero, List.take_of_length_le (i := s.size - k) (by simp), List.take_append_drop]

theorem extract_size_le (s : ByteArray) (i j : Nat) (h : s.size ≤ maxLen) : (s.extract i j).size ≤ maxLen := by
  rw [ByteArray.size_extract]; omega

theorem sum_split (s : ByteArray) (k b : Nat) (W : World) (h : s.size ≤ maxLen) (hc : W.cell? ⟨b, 0, none⟩ = some (.string (s.extract 0 k))) (hc' : W.cell? ⟨b, 1, none⟩ = some (.string ⟨#[]⟩)) (hc'' : W.cell? ⟨b, 2, none⟩ = some (.string (s.extract k s.size))) :
    Calls Try.prog 14 #[.slice (some ⟨b, 0, none⟩) 3 3] W fun e w' => e = .returned (.int .u32 ((Crc.upd Crc.ini s.data.toList).toNat : Int)) ∧ W = w' := by
  have := sum_three (s.extract 0 k) ⟨#[]⟩ (s.extract k s.size) b W (extract_size_le _ _ _ h) (by simp [ByteArray.size]) (extract_size_le _ _ _ h) hc hc' hc''
  rw [List.nil_append, cut_join s k] at this
  exact this

set_option maxHeartbeats 1000000 in
set_option maxRecDepth 100000 in
theorem parts_walk (a0 : Int) (a1 : ByteArray) (a2 : Int) (w0 : (Lit.int .u32 a0).wf = true) (w1 : a1.size ≤ maxLen) (w2 : (Lit.int .u8 a2).wf = true) (w : World) :
    Calls Try.prog 4 #[.int .u32 a0, .string a1, .int .u8 a2] w fun e w' => e = .returned (.bool true) ∧ Below w.heap.size w w' := by
  obtain ⟨x, rfl⟩ := u32_bv w0
  have hb2 : 0 ≤ a2 ∧ a2 ≤ 255 := by
    simp [Lit.wf, IntKind.min, IntKind.max, IntKind.bits, IntKind.signed] at w2
    omega
  clear w0 w2
  obtain ⟨m, rfl⟩ := Int.eq_ofNat_of_zero_le hb2.1
  have hm : m ≤ 255 := by omega
  clear hb2
  unfold maxLen at w1
  by_cases h : 300 < (a1.size : Int)
  · go_enter Try.func4, Try.ntmps4
    go_wp2_with fail
    refine (awake_any _).mono ?_
    rintro e w' ⟨rfl, hb⟩
    go_wp2_with fail
    go_ret
    exact ⟨rfl, hb⟩
  · go_enter Try.func4, Try.ntmps4
    go_wp2_with fail
    rw [show ((m : Int) % ((a1.size : Int) + 1)) = ((m % (a1.size + 1) : Nat) : Int) from by norm_cast]
    have hk : m % (a1.size + 1) ≤ a1.size := by have := Nat.mod_lt m (show 0 < a1.size + 1 by omega); omega
    generalize m % (a1.size + 1) = k at hk ⊢
    have H3 : a1.size ≤ maxLen := by unfold maxLen; omega
    have H1 : (a1.extract 0 k).size ≤ maxLen := extract_size_le _ _ _ H3
    have H2 : (a1.extract k a1.size).size ≤ maxLen := extract_size_le _ _ _ H3
    have hE : Crc.upd (Crc.upd x (a1.extract 0 k).data.toList) (a1.extract k a1.size).data.toList = Crc.upd x a1.data.toList := by
      rw [← Crc.upd_append, cut_join a1 k]
    have hA := fun W => update_any x (a1.extract 0 k) W H1
    have hB := fun W => update_any (Crc.upd x (a1.extract 0 k).data.toList) (a1.extract k a1.size) W H2
    rw [hE] at hB
    have hC := fun W => update_any x a1 W H3
    have hD := fun W => update_any Crc.ini a1 W H3
    rw [awake_ini] at hD
    have hF := fun b W => sum_split a1 k b W H3
    have hG := fun b W => sum_one a1 b W H3
    clear hE H1 H2 H3
    generalize Crc.upd Crc.ini a1.data.toList = z at hD hF hG
    generalize Crc.upd x a1.data.toList = y at hB hC
    generalize Crc.upd x (a1.extract 0 k).data.toList = r at hA hB
    have HA := Lib.hid hA
    have HB := Lib.hid hB
    have HC := Lib.hid hC
    have HD := Lib.hid hD
    have HF := Lib.hid hF
    have HG := Lib.hid hG
    clear hA hB hC hD hF hG
    refine wp_region_grow (by kernel_rfl) (by kernel_rfl) ?_
    repeat
      first
      | (apply grow_is
         case h =>
          intro a w1 hg hs hsl
          clear hs
          simp at hsl
          try (first | (refine Exists.elim (row_spec hsl) ?_; rintro b ⟨hv, _, hh⟩) | (refine Exists.elim (row_spec hsl.1) ?_; rintro b ⟨hv, _, hh⟩))
          unfold growAt guardOk
          go_simp
          try go_bits
          try simp only [↓IntWalk.iteOmega]
          first
            | exact grow_same
            | with_reducible exact grow_call_same (HA.out _)
            | with_reducible exact grow_call_same (HB.out _)
            | with_reducible exact grow_call_same (HC.out _)
            | with_reducible exact grow_call_same (HD.out _)
            | with_reducible exact grow_call_same (HF.out _ _ (row_cell hh rfl) (row_cell hh rfl) (row_cell hh rfl))
            | with_reducible exact grow_call_same (HG.out _ _ (row_cell hh rfl))
            | with_reducible exact grow_call_ext (awake_any _))
      | (refine grow_in (Row w #[.string (a1.extract 0 k), .string ⟨#[]⟩, .string (a1.extract k a1.size)] 9 3 3) (Up.row _ _ _ _ _) ?_ ?_
         · intro a w1 hg hs hsl
           clear hs
           simp at hsl
           try (first | (refine Exists.elim (row_spec hsl) ?_; rintro b ⟨hv, _, hh⟩) | (refine Exists.elim (row_spec hsl.1) ?_; rintro b ⟨hv, _, hh⟩))
           unfold growAt guardOk
           go_simp
           try go_bits
           try simp only [↓IntWalk.iteOmega]
           with_reducible exact row_new hg)
      | (refine grow_in (Row w #[.string a1] 9 1 1) (Up.row _ _ _ _ _) ?_ ?_
         · intro a w1 hg hs hsl
           clear hs
           simp at hsl
           try (first | (refine Exists.elim (row_spec hsl) ?_; rintro b ⟨hv, _, hh⟩) | (refine Exists.elim (row_spec hsl.1) ?_; rintro b ⟨hv, _, hh⟩))
           unfold growAt guardOk
           go_simp
           try go_bits
           try simp only [↓IntWalk.iteOmega]
           with_reducible exact row_new hg)
    refine grow_fin ?_
    intro w1 hw1
    simp only [List.reverse_cons, List.reverse_nil, List.nil_append, List.cons_append, FinT, Is, forall_eq, List.setIfInBounds_toArray, List.set_cons_succ, List.set_cons_zero]
    intro v1 hv1 v2 hv2 v3 hv3
    go_wp2_with fail
    go_ret
    exact ⟨rfl, hw1⟩

theorem Try.infoByte : (Try.prog.info? 5).map (fun i => (i.zero, i.size, i.bytes)) = some (some (.int .u8 0), 1, 1) := by kernel_rfl

/-- make([]byte, n), its bytes as a string -/
theorem make_bytes (n : Nat) (hn : n ≤ 1000) (W : World) :
    (Instr.makeSlice 35 (.int .i64 (n : Int)) (.int .i64 (n : Int))).run Try.prog W = .ok (.slice (some ⟨W.heap.size, 0, none⟩) n n) (W.alloc (.cells (madeCells #[.int .u8 0] n) 5)) := by
  obtain ⟨i0, hi, hz0, hz1, hz2⟩ := info_parts Try.infoByte
  have h := run_make (P := Try.prog) W 35 5 i0 (.int .u8 0) Try.underlying35 hi hz0 .i64 .i64 (n : Int) (n : Int) (by omega) (by omega) (by rw [hz2]; omega) (by omega)
  simpa [hz1, Value.cells] using h

theorem made_string (n b : Nat) (W : World) (T : TypeId) (h : W.heap[b]? = some (.cells (madeCells #[.int .u8 0] n) T (0, 0))) :
    ∃ z : ByteArray, z.data.toList = List.replicate n 0 ∧ (convert 35 9 (.slice (some ⟨b, 0, none⟩) n n)).run Try.prog W = .ok (.string z) W := by
  refine ⟨strOfNums (List.replicate n 0), by simp [strOfNums], ?_⟩
  refine run_convert_bytes_arg (P := Try.prog) W 35 5 Try.underlying35 Try.underlying5 b 0 n n (List.replicate n 0) (by simp) ?_ 9 Try.underlying9
  intro i hi
  rw [Nat.zero_add]
  refine row_cell h ?_
  have hs : (madeCells #[Value.int .u8 0] n).size = n := size_madeCells _ _
  rw [Array.getElem?_eq_getElem (by omega)]
  simp [madeCells, hi, Nat.mod_one]

theorem registers_walk (a0 a1 : Int) (a2 : ByteArray) (w0 : (Lit.int .u32 a0).wf = true) (w1 : (Lit.int .u32 a1).wf = true) (w2 : a2.size ≤ maxLen) (w : World) :
    Calls Try.prog 8 #[.int .u32 a0, .int .u32 a1, .string a2] w fun e w' => e = .returned (.bool true) ∧ Below w.heap.size w w' := by
  obtain ⟨x, rfl⟩ := u32_bv w0
  obtain ⟨y, rfl⟩ := u32_bv w1
  clear w0 w1
  have H3 := w2
  unfold maxLen at w2
  by_cases h : 300 < (a2.size : Int)
  · go_enter Try.func8, Try.ntmps8
    go_wp2_with fail
    refine (awake_any _).mono ?_
    rintro e w' ⟨rfl, hb⟩
    go_wp2_with fail
    go_ret
    exact ⟨rfl, hb⟩
  · have hmk := make_bytes a2.size (by omega) w
    obtain ⟨z, hz, hcv⟩ := made_string a2.size w.heap.size (w.alloc (.cells (madeCells #[.int .u8 0] a2.size) 5)) 5 (by show (w.heap.push _)[w.heap.size]? = _; simp)
    have hzs : z.size ≤ maxLen := by
      have : z.size = z.data.toList.length := rfl
      rw [this, hz, List.length_replicate]; exact H3
    have hX : Crc.upd x a2.data.toList ^^^ Crc.upd y a2.data.toList = Crc.upd (x ^^^ y) z.data.toList := by
      rw [hz, Crc.upd_zeros, Crc.upd_zero _ x, Crc.upd_zero _ y, Crc.xor4, BitVec.xor_self, BitVec.xor_zero, ← Crc.dbls_xor]
      rfl
    have hbx := Lib.hid (bits_xor32 (Crc.upd x a2.data.toList) (Crc.upd y a2.data.toList))
    have hbx2 := Lib.hid (bits_xor32 x y)
    have hinj : Crc.upd x a2.data.toList = Crc.upd y a2.data.toList → x = y := Crc.upd_inj _ _ _
    have hU := fun W => update_any (x ^^^ y) z W hzs
    rw [← hX] at hU
    have hU1 := fun W => update_any x a2 W H3
    have hU2 := fun W => update_any y a2 W H3
    have hdec : (((Crc.upd x a2.data.toList).toNat : Int) == ((Crc.upd y a2.data.toList).toNat : Int)) = ((x.toNat : Int) == (y.toNat : Int)) := by
      by_cases hxy : x = y
      · subst hxy; simp
      · have h1 : ¬ Crc.upd x a2.data.toList = Crc.upd y a2.data.toList := fun e => hxy (hinj e)
        have h2 : ∀ p q : BitVec 32, ¬ p = q → ((p.toNat : Int) == (q.toNat : Int)) = false := by
          intro p q hpq
          rw [beq_eq_false_iff_ne]
          intro e
          exact hpq (BitVec.eq_of_toNat_eq (by omega))
        rw [h2 _ _ h1, h2 _ _ hxy]
    clear hX hinj hz hzs H3
    generalize Crc.upd x a2.data.toList = X at *
    generalize Crc.upd y a2.data.toList = Y at *
    have HU := Lib.hid hU
    have HU1 := Lib.hid hU1
    have HU2 := Lib.hid hU2
    clear hU hU1 hU2
    generalize hXY : X ^^^ Y = XY at hbx HU
    generalize hxy : x ^^^ y = xy at hbx2 HU
    clear hXY hxy
    have hbx' := hbx.out
    have hbx2' := hbx2.out
    clear hbx hbx2
    go_enter Try.func8, Try.ntmps8
    go_wp2_with fail
    refine (HU1.out _).mono ?_
    rintro e w' ⟨rfl, rfl⟩
    go_wp2_with fail
    refine (HU2.out _).mono ?_
    rintro e w' ⟨rfl, rfl⟩
    go_wp2_with fail
    refine (HU.out _).mono ?_
    rintro e w' ⟨rfl, rfl⟩
    go_wp2_with fail
    refine (awake_any _).mono ?_
    rintro e w' ⟨rfl, hb⟩
    go_wp2_with fail
    go_ret
    exact ⟨rfl, bapp (balloc (Below.refl _ _) _) hb⟩
end Go.Proofs.Ytcidjflgmhhkbaa
