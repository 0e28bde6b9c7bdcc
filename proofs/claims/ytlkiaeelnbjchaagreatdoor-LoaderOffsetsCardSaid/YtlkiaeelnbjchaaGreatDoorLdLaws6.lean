/- The law LoaderOffsets returns true. (Layer 27) -/
import Derived.Test.YtlkiaeelnbjchaaGreatDoorLdLaws4
namespace Go.Proofs.YtlkiaeelnbjchaaGreatDoor
open Go.RowKit
open Go.Lib hiding intOf
set_option linter.unusedVariables false
attribute [local simp] Slots Slot look Is Oper.looksAt Op.operands Call.operands

theorem pc_eq27 (a : Nat) (i t : Int) (s : ByteArray) (w : World) :
    (binOp .eql 38 (.agg #[.int .u32 a, .int .i64 i, .int .i64 t, .string s]) (.agg #[.int .u32 a, .int .i64 i, .int .i64 t, .string s])).run Tryz.prog w = .ok (.bool true) w := by
  have hu : Tryz.prog.underlying 38 = some (.struct (Tryz.prog.fieldsOf 38)) := by unfold Program.fieldsOf; rw [Tryz.underlying38]
  rw [run_eql_struct, run_equalIn_struct w 9999 _ _ _ hu (by kernel_rfl)]
  unfold Program.fieldsOf
  rw [Tryz.underlying38]
  simp [Op.eqFields, go_sem, Tryz.underlying9]
/-- a slice of known length -/
structure SliceP (n : Nat) (v : Value) : Prop where
  ex : ∃ A c, v = .slice A n c
def SliceN (n : Nat) : AV := fun _ v => SliceP n v
theorem Up.sliceN (n : Nat) : Up (SliceN n) := fun _ _ _ _ h => h
theorem sliceN_spec {n : Nat} {w : World} {v : Value} (h : SliceN n w v) : ∃ A c, v = .slice A n c := h.ex
theorem grow_call_slice {w : World} {f : FuncId} {args : Array Value} {n : Nat} (h : Calls Tryz.prog f args w fun e w' => ∃ v, e = .returned v ∧ SliceN n w' v ∧ Ext w w') : growUpon Tryz.prog w (SliceN n) (.ok (.enter f args) w) :=
  grow_call (Ext.refl _) (h.mono fun e w' ⟨v, he, hv, hx⟩ => ⟨v, he, hx, hv⟩)
theorem totR_le (l : List ByteArray) (m : Nat) (h : ∀ r ∈ l, r.size ≤ m) : totR l ≤ (m + 1) * l.length := by
  induction l with
  | nil => simp [totR]
  | cons x l ih =>
    have e : totR (x :: l) = (1 + x.size) + totR l := by simp [totR]
    rw [e, List.length_cons, Nat.mul_succ]
    have := ih (fun r hr => h r (List.mem_cons_of_mem _ hr))
    have := h x List.mem_cons_self
    omega
theorem rpieces_n (arch : Nat) (rows : List ByteArray) (ha : arch < 4294967296) (hz : ∀ s ∈ rows, s.size ≤ 10000) (hr : rows.length ≤ 2) (W : World) (b : Nat) (hb : W.heap[b]? = some (.cells (rows.map Value.string).toArray 9 (0, 0))) (n : Nat) (hn : n = rows.length) :
    Calls Tryz.prog 19 #[.slice (some ⟨b, 0, none⟩) n n, .int .u32 arch] W fun e w' => ∃ v, e = .returned v ∧ SliceN (framesL rows arch).length w' v ∧ Ext W w' := by
  have hfl := framesL_len rows arch
  have htot := totR_le rows 10000 hz
  have htot2 : (10000 + 1) * rows.length ≤ 20002 := Nat.mul_le_mul_left 10001 hr
  refine (rpieces_any _ n n arch rows W ha (Lst.block hb (by rw [List.length_map]; exact hn) (by unfold maxLen; omega)) (fun s hs => by have := hz s hs; omega) (by omega)).mono ?_
  rintro e w' ⟨v, rfl, ho, hx⟩
  obtain ⟨A1, c1, rfl, -⟩ := PLst.of_own ho
  exact ⟨_, rfl, ⟨⟨_, _, rfl⟩⟩, hx⟩
theorem pieces_n (arch : Nat) (rows : List ByteArray) (ha : arch < 4294967296) (hz : ∀ s ∈ rows, s.size ≤ 10000) (hr : rows.length ≤ 2) (W : World) (hE : Env W) (b : Nat) (hb : W.heap[b]? = some (.cells (rows.map Value.string).toArray 9 (0, 0))) (n : Nat) (hn : n = rows.length) :
    Calls Tryz.prog 18 #[.slice (some ⟨b, 0, none⟩) n n, .int .u32 arch] W fun e w' => ∃ v, e = .returned v ∧ SliceN (framesL rows arch).length w' v ∧ Ext W w' ∧ ∃ A c, v = .slice A (framesL rows arch).length c ∧ PLst w' A (framesL rows arch).length c (framesL rows arch) := by
  have hfl := framesL_len rows arch
  have htot := totR_le rows 10000 hz
  have htot2 : (10000 + 1) * rows.length ≤ 20002 := Nat.mul_le_mul_left 10001 hr
  refine (pieces_any _ n n arch rows W hE ha (Lst.block hb (by rw [List.length_map]; exact hn) (by unfold maxLen; omega)) (fun s hs => by have := hz s hs; omega) (by omega)).mono ?_
  rintro e w' ⟨v, rfl, ho, hx⟩
  obtain ⟨A1, c1, rfl, hl⟩ := PLst.of_own ho
  exact ⟨_, rfl, ⟨⟨_, _, rfl⟩⟩, hx, A1, c1, rfl, hl⟩

set_option maxRecDepth 100000 in
set_option maxHeartbeats 60000000 in
theorem lawOff_any (a : Nat) (i t : Int) (s : ByteArray) (bf af ct : Nat) (w : World) (hs : s.size ≤ maxLen) (ha : a < 4294967296) (hbf : bf ≤ 255) (haf : af ≤ 255) (hct : ct ≤ 65535) (hE : Env w) :
    Calls Tryz.prog 6 #[.agg #[.int .u32 a, .int .i64 i, .int .i64 t, .string s], .int .u8 bf, .int .u8 af, .int .u16 ct] w fun e w' => e = .returned (.bool true) ∧ Ext w w' := by
  have HW := Lib.hid (fun W (h : Env W) => awake7_any W h)
  have hs' := hs
  unfold maxLen at hs
  have hx0 : Ext w (w.alloc (.cells #[.int .u32 a, .int .i64 i, .int .i64 t, .string s] 38)) := (Ext.refl _).alloc _
  have hE0 := hE.ext hx0
  have HB0 : Hid (Blk (w.alloc (.cells #[.int .u32 a, .int .i64 i, .int .i64 t, .string s] 38)) w.heap.size 38 [.int .u32 a, .int .i64 i, .int .i64 t, .string s]) := by show (w.heap.push _)[w.heap.size]? = _; simp
  have hA : ∀ W, Env W → Calls Tryz.prog 20 #[.agg #[.int .u32 a, .int .i64 i, .int .i64 t, .string s]] W fun e w' => e = .returned (.tuple #[.string (BA (encodeA ⟨a, i, t, s⟩).1), .int .i64 (encodeA ⟨a, i, t, s⟩).2]) ∧ Ext W w' := fun W h => encode_any ⟨a, i, t, s⟩ W ha hs' h
  unfold encodeA at hA
  by_cases hc : checkZ i t s = 0
  rotate_left
  · rw [if_neg (show ¬ checkZ (⟨a, i, t, s⟩ : Pc).index (⟨a, i, t, s⟩ : Pc).total (⟨a, i, t, s⟩ : Pc).text = 0 from hc)] at hA
    simp only at hA
    have hE1' : (checkZ i t s != 0) = true := by simpa using hc
    generalize checkZ i t s = E at *
    have HA : Hid (∀ W, Env W → Calls Tryz.prog 20 #[.agg #[.int .u32 a, .int .i64 i, .int .i64 t, .string s]] W fun e w' => e = .returned (.tuple #[.string ⟨#[]⟩, .int .i64 E]) ∧ Ext W w') := hA
    clear hA hc
    go_enter Tryz.func6, Tryz.ntmps6
    go_wp2_with fail
    refine (HA.out _ hE0).mono ?_
    rintro e w1 ⟨rfl, hx1⟩
    have hx01 := hx0.trans hx1
    go_wp2_with fail
    refine (HW.out _ (hE.ext hx01)).mono ?_
    rintro e w3 ⟨rfl, hx3⟩
    go_wp2_with fail
    go_ret
    exact ⟨rfl, hx01.trans hx3⟩
  rw [if_pos (show checkZ (⟨a, i, t, s⟩ : Pc).index (⟨a, i, t, s⟩ : Pc).total (⟨a, i, t, s⟩ : Pc).text = 0 from hc)] at hA
  have HA : Hid (∀ W, Env W → Calls Tryz.prog 20 #[.agg #[.int .u32 a, .int .i64 i, .int .i64 t, .string s]] W fun e w' => e = .returned (.tuple #[.string (BA (encL ⟨a, i, t, s⟩)), .int .i64 0]) ∧ Ext W w') := hA
  clear hA
  by_cases hb2 : 200 < bf
  · clear hc
    go_enter Tryz.func6, Tryz.ntmps6
    go_wp2_with fail
    refine (HA.out _ hE0).mono ?_
    rintro e w1 ⟨rfl, hx1⟩
    have hx01 := hx0.trans hx1
    go_wp2_with fail
    refine (HW.out _ (hE.ext hx01)).mono ?_
    rintro e w3 ⟨rfl, hx3⟩
    go_wp2_with fail
    go_ret
    exact ⟨rfl, hx01.trans hx3⟩
  by_cases ha2 : 200 < af
  · clear hc
    go_enter Tryz.func6, Tryz.ntmps6
    go_wp2_with fail
    refine (HA.out _ hE0).mono ?_
    rintro e w1 ⟨rfl, hx1⟩
    have hx01 := hx0.trans hx1
    go_wp2_with fail
    refine (HW.out _ (hE.ext hx01)).mono ?_
    rintro e w3 ⟨rfl, hx3⟩
    go_wp2_with fail
    go_ret
    exact ⟨rfl, hx01.trans hx3⟩
  have h64 := (check_ok hc).2.2.2.2.1
  have hCz : (BA (encL ⟨a, i, t, s⟩)).size = 768 := by rw [BA_size]; exact enc_len (p := ⟨a, i, t, s⟩) h64
  obtain ⟨a1, ha1⟩ : ∃ a1, a1 = (a + 1) % 4294967296 := ⟨_, rfl⟩
  have ha1l : a1 < 4294967296 := by omega
  have hne : a ≠ a1 := by omega
  have hwr : ((a : Int) + 1) % 4294967296 = (a1 : Int) := by omega
  obtain ⟨k, hk⟩ : ∃ k : Nat, k = bf + 1 + ct % 767 := ⟨_, rfl⟩
  obtain ⟨cq, hcq⟩ : ∃ q : Nat, q = ct % 767 := ⟨_, rfl⟩
  have hcq1 : (ct : Int) % 767 = (cq : Int) := by omega
  have hcq2 : cq ≤ 766 := by omega
  have hkk : (bf : Int) + 1 + cq = (k : Int) := by omega
  have hk2 : k ≤ bf + 767 := by omega
  obtain ⟨Z, hZ⟩ : ∃ Z : Nat, Z = bf + 768 + af := ⟨_, rfl⟩
  obtain ⟨S, hS⟩ : ∃ S, S = BA (List.replicate bf 48 ++ (encL ⟨a, i, t, s⟩ ++ List.replicate af 48)) := ⟨_, rfl⟩
  have hSz : S.size = Z := by
    rw [hS, BA_size, List.length_append, List.length_append, List.length_replicate, List.length_replicate, enc_len (p := ⟨a, i, t, s⟩) h64, hZ]; omega
  have hScat : Hid (BA (List.replicate bf 48) ++ BA (encL ⟨a, i, t, s⟩) ++ BA (List.replicate af 48) = S) := by
    show _ = _
    rw [hS, ← BA_append, ← BA_append, List.append_assoc]
  have hz1 : ∀ r ∈ [S], r.size ≤ 10000 := by intro r hr; rw [List.mem_singleton] at hr; rw [hr, hSz]; omega
  have hz2 : ∀ r ∈ [S.extract 0 k, S.extract k Z], r.size ≤ 10000 := by
    intro r hr
    rcases List.mem_cons.1 hr with h | h
    · rw [h, ByteArray.size_extract]; omega
    · rw [List.mem_singleton] at h; rw [h, ByteArray.size_extract]; omega
  have HR1 := Lib.hid (fun W b (hb : W.heap[b]? = some (.cells #[.string S] 9 (0, 0))) => rpieces_n a [S] ha hz1 (by simp) W b hb 1 rfl)
  have HR2 := Lib.hid (fun W b (hb : W.heap[b]? = some (.cells #[.string (S.extract 0 k), .string (S.extract k Z)] 9 (0, 0))) => rpieces_n a [S.extract 0 k, S.extract k Z] ha hz2 (by simp) W b hb 2 rfl)
  have HP1 := Lib.hid (fun W b (hE : Env W) (hb : W.heap[b]? = some (.cells #[.string S] 9 (0, 0))) => pieces_n a [S] ha hz1 (by simp) W hE b hb 1 rfl)
  have HP2 := Lib.hid (fun W b (hE : Env W) (hb : W.heap[b]? = some (.cells #[.string (S.extract 0 k), .string (S.extract k Z)] 9 (0, 0))) => pieces_n a [S.extract 0 k, S.extract k Z] ha hz2 (by simp) W hE b hb 2 rfl)
  have HP3 := Lib.hid (fun W b (hE : Env W) (hb : W.heap[b]? = some (.cells #[.string S] 9 (0, 0))) => pieces_n a1 [S] ha1l hz1 (by simp) W hE b hb 1 rfl)
  have hmem : (⟨a, i, t, s⟩ : Pc) ∈ framesL [S] a := by
    unfold framesL
    rw [List.flatMap_cons, hS]
    exact List.mem_append.2 (.inl (framesP_has ⟨a, i, t, s⟩ bf af ha hc))
  have hno : framesL [S] a1 = [] := by
    unfold framesL
    rw [List.flatMap_cons, hS, framesP_zero ⟨a, i, t, s⟩ bf af a1 ha hc hne]; rfl
  rw [hno] at HP3
  have HRA := Lib.hid (fun W => repeat_any 48 bf W (by omega))
  have HRB := Lib.hid (fun W => repeat_any 48 af W (by omega))
  have hZa : (BA (List.replicate bf 48)).size = bf := by rw [BA_size, List.length_replicate]
  have hZb : (BA (List.replicate af 48)).size = af := by rw [BA_size, List.length_replicate]
  generalize BA (encL ⟨a, i, t, s⟩) = C at *
  generalize BA (List.replicate bf 48) = Ra at *
  generalize BA (List.replicate af 48) = Rb at *
  generalize framesL [S.extract 0 k, S.extract k Z] a = F2 at *
  generalize framesL [S] a = F1 at *
  have hq := pc_eq27 a i t s
  have hS5 : Z ≤ 2000 := by omega
  have hkZ : k ≤ Z := by omega
  have HM := Lib.hid hmem
  clear hc ha1 hk hcq hS hz1 hz2 hmem hno h64 hZ hs hs' hne
  go_enter Tryz.func6, Tryz.ntmps6
  go_wp2_with fail
  refine (HA.out _ hE0).mono ?_
  rintro e w1 ⟨rfl, hx1⟩
  have HB1 := Lib.hid (HB0.out.ext hx1)
  have hx01 := hx0.trans hx1
  clear hx1 hx0
  go_wp2_with fail
  refine (HRA.out _).mono ?_
  rintro e w2 ⟨rfl, hx2⟩
  go_wp2_with fail
  refine (HRB.out _).mono ?_
  rintro e w3 ⟨rfl, hx3⟩
  have HB3 := Lib.hid ((HB1.out.ext hx2).ext hx3)
  have hx03 := (hx01.trans hx2).trans hx3
  clear hx2 hx3 hx01
  go_wp2_with fail
  rw [hScat.out]
  clear hScat hcq1 hkk hCz hZa hZb HA HRA HRB HB0 HB1
  obtain ⟨n1, hn1⟩ : ∃ n, n = F1.length := ⟨_, rfl⟩
  obtain ⟨n2, hn2⟩ : ∃ n, n = F2.length := ⟨_, rfl⟩
  rw [← hn1] at HR1 HP1
  rw [← hn2] at HR2 HP2
  have HN1 := Lib.hid hn1
  clear hn1 hn2
  by_cases h1 : n1 = 1
  rotate_left
  · have h1' : ((n1 : Int) != 1) = true := by simp; omega
    refine wp_region_grow (by kernel_rfl) (by kernel_rfl) ?_
    repeat
      first
      | (apply grow_is
         case h =>
          intro a w1 hg hs hsl
          clear hs
          try simp at hsl
          try (first | (refine Exists.elim (row_spec hsl) ?_; rintro b ⟨hv, _, hh⟩) | (refine Exists.elim (row_spec hsl.1) ?_; rintro b ⟨hv, _, hh⟩))
          have hp4 := four (HB3.out.ext hg)
          try (first | ((with_reducible refine Exists.elim (sliceN_spec hsl) ?_); rintro As ⟨cs, hv2⟩) | ((with_reducible refine Exists.elim (sliceN_spec hsl.1) ?_); rintro As ⟨cs, hv2⟩))
          unfold growAt guardOk
          go_simp
          try go_bits
          try simp only [↓IntWalk.iteOmega]
          first
            | exact grow_same
            | exact is_skip
            | exact rfl)
      | (refine grow_in (Row w3 #[.string S] 9 1 1) (Up.row _ _ _ _ _) ?_ ?_
         · intro a w1 hg hs hsl
           clear hs
           try simp at hsl
           try (first | (refine Exists.elim (row_spec hsl) ?_; rintro b ⟨hv, _, hh⟩) | (refine Exists.elim (row_spec hsl.1) ?_; rintro b ⟨hv, _, hh⟩))
           have hp4 := four (HB3.out.ext hg)
           try (first | ((with_reducible refine Exists.elim (sliceN_spec hsl) ?_); rintro As ⟨cs, hv2⟩) | ((with_reducible refine Exists.elim (sliceN_spec hsl.1) ?_); rintro As ⟨cs, hv2⟩))
           unfold growAt guardOk
           go_simp
           try go_bits
           try simp only [↓IntWalk.iteOmega]
           with_reducible exact row_new hg)
      | (refine grow_in (Row w3 #[.string (S.extract 0 k), .string (S.extract k Z)] 9 2 2) (Up.row _ _ _ _ _) ?_ ?_
         · intro a w1 hg hs hsl
           clear hs
           try simp at hsl
           try (first | (refine Exists.elim (row_spec hsl) ?_; rintro b ⟨hv, _, hh⟩) | (refine Exists.elim (row_spec hsl.1) ?_; rintro b ⟨hv, _, hh⟩))
           have hp4 := four (HB3.out.ext hg)
           try (first | ((with_reducible refine Exists.elim (sliceN_spec hsl) ?_); rintro As ⟨cs, hv2⟩) | ((with_reducible refine Exists.elim (sliceN_spec hsl.1) ?_); rintro As ⟨cs, hv2⟩))
           unfold growAt guardOk
           go_simp
           try go_bits
           try simp only [↓IntWalk.iteOmega]
           with_reducible exact row_new hg)
      | (refine grow_in (SliceN n1) (Up.sliceN _) ?_ ?_
         · intro a w1 hg hs hsl
           clear hs
           try simp at hsl
           try (first | (refine Exists.elim (row_spec hsl) ?_; rintro b ⟨hv, _, hh⟩) | (refine Exists.elim (row_spec hsl.1) ?_; rintro b ⟨hv, _, hh⟩))
           have hp4 := four (HB3.out.ext hg)
           try (first | ((with_reducible refine Exists.elim (sliceN_spec hsl) ?_); rintro As ⟨cs, hv2⟩) | ((with_reducible refine Exists.elim (sliceN_spec hsl.1) ?_); rintro As ⟨cs, hv2⟩))
           unfold growAt guardOk
           go_simp
           try go_bits
           try simp only [↓IntWalk.iteOmega]
           ((with_reducible have hvv : a.tmps[50]?.getD undef = _ := hv); with_reducible exact grow_call_slice (HR1.out _ _ hh)))
      | (refine grow_in (SliceN n2) (Up.sliceN _) ?_ ?_
         · intro a w1 hg hs hsl
           clear hs
           try simp at hsl
           try (first | (refine Exists.elim (row_spec hsl) ?_; rintro b ⟨hv, _, hh⟩) | (refine Exists.elim (row_spec hsl.1) ?_; rintro b ⟨hv, _, hh⟩))
           have hp4 := four (HB3.out.ext hg)
           try (first | ((with_reducible refine Exists.elim (sliceN_spec hsl) ?_); rintro As ⟨cs, hv2⟩) | ((with_reducible refine Exists.elim (sliceN_spec hsl.1) ?_); rintro As ⟨cs, hv2⟩))
           unfold growAt guardOk
           go_simp
           try go_bits
           try simp only [↓IntWalk.iteOmega]
           ((with_reducible have hvv : a.tmps[63]?.getD undef = _ := hv); with_reducible exact grow_call_slice (HR2.out _ _ hh)))
    refine grow_fin ?_
    intro w1 hw1
    simp only [List.reverse_cons, List.reverse_nil, List.nil_append, List.cons_append, FinT, Is, forall_eq, List.setIfInBounds_toArray, List.set_cons_succ, List.set_cons_zero]
    intro v1 hv1 v2 hv2
    have hx4 := hx03.trans hw1
    go_wp2_with fail
    refine (HW.out _ (hE.ext hx4)).mono ?_
    rintro e w8 ⟨rfl, hx8⟩
    go_wp2_with fail
    go_ret
    exact ⟨rfl, hx4.trans hx8⟩
  subst h1
  by_cases h2 : n2 = 0
  rotate_left
  · have h2' : ((n2 : Int) != 0) = true := by simp; omega
    refine wp_region_grow (by kernel_rfl) (by kernel_rfl) ?_
    repeat
      first
      | (apply grow_is
         case h =>
          intro a w1 hg hs hsl
          clear hs
          try simp at hsl
          try (first | (refine Exists.elim (row_spec hsl) ?_; rintro b ⟨hv, _, hh⟩) | (refine Exists.elim (row_spec hsl.1) ?_; rintro b ⟨hv, _, hh⟩))
          have hp4 := four (HB3.out.ext hg)
          try (first | ((with_reducible refine Exists.elim (sliceN_spec hsl) ?_); rintro As ⟨cs, hv2⟩) | ((with_reducible refine Exists.elim (sliceN_spec hsl.1) ?_); rintro As ⟨cs, hv2⟩))
          unfold growAt guardOk
          go_simp
          try go_bits
          try simp only [↓IntWalk.iteOmega]
          first
            | exact grow_same
            | exact is_skip
            | exact rfl)
      | (refine grow_in (Row w3 #[.string S] 9 1 1) (Up.row _ _ _ _ _) ?_ ?_
         · intro a w1 hg hs hsl
           clear hs
           try simp at hsl
           try (first | (refine Exists.elim (row_spec hsl) ?_; rintro b ⟨hv, _, hh⟩) | (refine Exists.elim (row_spec hsl.1) ?_; rintro b ⟨hv, _, hh⟩))
           have hp4 := four (HB3.out.ext hg)
           try (first | ((with_reducible refine Exists.elim (sliceN_spec hsl) ?_); rintro As ⟨cs, hv2⟩) | ((with_reducible refine Exists.elim (sliceN_spec hsl.1) ?_); rintro As ⟨cs, hv2⟩))
           unfold growAt guardOk
           go_simp
           try go_bits
           try simp only [↓IntWalk.iteOmega]
           with_reducible exact row_new hg)
      | (refine grow_in (Row w3 #[.string (S.extract 0 k), .string (S.extract k Z)] 9 2 2) (Up.row _ _ _ _ _) ?_ ?_
         · intro a w1 hg hs hsl
           clear hs
           try simp at hsl
           try (first | (refine Exists.elim (row_spec hsl) ?_; rintro b ⟨hv, _, hh⟩) | (refine Exists.elim (row_spec hsl.1) ?_; rintro b ⟨hv, _, hh⟩))
           have hp4 := four (HB3.out.ext hg)
           try (first | ((with_reducible refine Exists.elim (sliceN_spec hsl) ?_); rintro As ⟨cs, hv2⟩) | ((with_reducible refine Exists.elim (sliceN_spec hsl.1) ?_); rintro As ⟨cs, hv2⟩))
           unfold growAt guardOk
           go_simp
           try go_bits
           try simp only [↓IntWalk.iteOmega]
           with_reducible exact row_new hg)
      | (refine grow_in (SliceN 1) (Up.sliceN _) ?_ ?_
         · intro a w1 hg hs hsl
           clear hs
           try simp at hsl
           try (first | (refine Exists.elim (row_spec hsl) ?_; rintro b ⟨hv, _, hh⟩) | (refine Exists.elim (row_spec hsl.1) ?_; rintro b ⟨hv, _, hh⟩))
           have hp4 := four (HB3.out.ext hg)
           try (first | ((with_reducible refine Exists.elim (sliceN_spec hsl) ?_); rintro As ⟨cs, hv2⟩) | ((with_reducible refine Exists.elim (sliceN_spec hsl.1) ?_); rintro As ⟨cs, hv2⟩))
           unfold growAt guardOk
           go_simp
           try go_bits
           try simp only [↓IntWalk.iteOmega]
           ((with_reducible have hvv : a.tmps[50]?.getD undef = _ := hv); with_reducible exact grow_call_slice (HR1.out _ _ hh)))
      | (refine grow_in (SliceN n2) (Up.sliceN _) ?_ ?_
         · intro a w1 hg hs hsl
           clear hs
           try simp at hsl
           try (first | (refine Exists.elim (row_spec hsl) ?_; rintro b ⟨hv, _, hh⟩) | (refine Exists.elim (row_spec hsl.1) ?_; rintro b ⟨hv, _, hh⟩))
           have hp4 := four (HB3.out.ext hg)
           try (first | ((with_reducible refine Exists.elim (sliceN_spec hsl) ?_); rintro As ⟨cs, hv2⟩) | ((with_reducible refine Exists.elim (sliceN_spec hsl.1) ?_); rintro As ⟨cs, hv2⟩))
           unfold growAt guardOk
           go_simp
           try go_bits
           try simp only [↓IntWalk.iteOmega]
           ((with_reducible have hvv : a.tmps[63]?.getD undef = _ := hv); with_reducible exact grow_call_slice (HR2.out _ _ hh)))
    refine grow_fin ?_
    intro w1 hw1
    simp only [List.reverse_cons, List.reverse_nil, List.nil_append, List.cons_append, FinT, Is, forall_eq, List.setIfInBounds_toArray, List.set_cons_succ, List.set_cons_zero]
    intro v1 hv1 v2 hv2 v3 hv3 v4 hv4
    have hx4 := hx03.trans hw1
    go_wp2_with fail
    refine (HW.out _ (hE.ext hx4)).mono ?_
    rintro e w8 ⟨rfl, hx8⟩
    go_wp2_with fail
    go_ret
    exact ⟨rfl, hx4.trans hx8⟩
  subst h2
  refine wp_region_grow (by kernel_rfl) (by kernel_rfl) ?_
  repeat
    first
    | (apply grow_is
       case h =>
        intro a w1 hg hs hsl
        clear hs
        try simp at hsl
        try (first | (refine Exists.elim (row_spec hsl) ?_; rintro b ⟨hv, _, hh⟩) | (refine Exists.elim (row_spec hsl.1) ?_; rintro b ⟨hv, _, hh⟩))
        have hp4 := four (HB3.out.ext hg)
        try (first | ((with_reducible refine Exists.elim (sliceN_spec hsl) ?_); rintro As ⟨cs, hv2⟩) | ((with_reducible refine Exists.elim (sliceN_spec hsl.1) ?_); rintro As ⟨cs, hv2⟩))
        unfold growAt guardOk
        go_simp
        try go_bits
        try simp only [↓IntWalk.iteOmega]
        first
          | exact grow_same
          | exact is_skip
          | exact rfl)
    | (refine grow_in (Row w3 #[.string S] 9 1 1) (Up.row _ _ _ _ _) ?_ ?_
       · intro a w1 hg hs hsl
         clear hs
         try simp at hsl
         try (first | (refine Exists.elim (row_spec hsl) ?_; rintro b ⟨hv, _, hh⟩) | (refine Exists.elim (row_spec hsl.1) ?_; rintro b ⟨hv, _, hh⟩))
         have hp4 := four (HB3.out.ext hg)
         try (first | ((with_reducible refine Exists.elim (sliceN_spec hsl) ?_); rintro As ⟨cs, hv2⟩) | ((with_reducible refine Exists.elim (sliceN_spec hsl.1) ?_); rintro As ⟨cs, hv2⟩))
         unfold growAt guardOk
         go_simp
         try go_bits
         try simp only [↓IntWalk.iteOmega]
         with_reducible exact row_new hg)
    | (refine grow_in (Row w3 #[.string (S.extract 0 k), .string (S.extract k Z)] 9 2 2) (Up.row _ _ _ _ _) ?_ ?_
       · intro a w1 hg hs hsl
         clear hs
         try simp at hsl
         try (first | (refine Exists.elim (row_spec hsl) ?_; rintro b ⟨hv, _, hh⟩) | (refine Exists.elim (row_spec hsl.1) ?_; rintro b ⟨hv, _, hh⟩))
         have hp4 := four (HB3.out.ext hg)
         try (first | ((with_reducible refine Exists.elim (sliceN_spec hsl) ?_); rintro As ⟨cs, hv2⟩) | ((with_reducible refine Exists.elim (sliceN_spec hsl.1) ?_); rintro As ⟨cs, hv2⟩))
         unfold growAt guardOk
         go_simp
         try go_bits
         try simp only [↓IntWalk.iteOmega]
         with_reducible exact row_new hg)
    | (refine grow_in (SliceN 1) (Up.sliceN _) ?_ ?_
       · intro a w1 hg hs hsl
         clear hs
         try simp at hsl
         try (first | (refine Exists.elim (row_spec hsl) ?_; rintro b ⟨hv, _, hh⟩) | (refine Exists.elim (row_spec hsl.1) ?_; rintro b ⟨hv, _, hh⟩))
         have hp4 := four (HB3.out.ext hg)
         try (first | ((with_reducible refine Exists.elim (sliceN_spec hsl) ?_); rintro As ⟨cs, hv2⟩) | ((with_reducible refine Exists.elim (sliceN_spec hsl.1) ?_); rintro As ⟨cs, hv2⟩))
         unfold growAt guardOk
         go_simp
         try go_bits
         try simp only [↓IntWalk.iteOmega]
         ((with_reducible have hvv : a.tmps[50]?.getD undef = _ := hv); with_reducible exact grow_call_slice (HR1.out _ _ hh)))
    | (refine grow_in (SliceN 0) (Up.sliceN _) ?_ ?_
       · intro a w1 hg hs hsl
         clear hs
         try simp at hsl
         try (first | (refine Exists.elim (row_spec hsl) ?_; rintro b ⟨hv, _, hh⟩) | (refine Exists.elim (row_spec hsl.1) ?_; rintro b ⟨hv, _, hh⟩))
         have hp4 := four (HB3.out.ext hg)
         try (first | ((with_reducible refine Exists.elim (sliceN_spec hsl) ?_); rintro As ⟨cs, hv2⟩) | ((with_reducible refine Exists.elim (sliceN_spec hsl.1) ?_); rintro As ⟨cs, hv2⟩))
         unfold growAt guardOk
         go_simp
         try go_bits
         try simp only [↓IntWalk.iteOmega]
         ((with_reducible have hvv : a.tmps[63]?.getD undef = _ := hv); with_reducible exact grow_call_slice (HR2.out _ _ hh)))
  refine grow_fin ?_
  intro w1 hw1
  simp only [List.reverse_cons, List.reverse_nil, List.nil_append, List.cons_append, FinT, Is, forall_eq, List.setIfInBounds_toArray, List.set_cons_succ, List.set_cons_zero]
  intro v1 hv1 v2 hv2 v3 hv3 v4 hv4
  have hx4 := hx03.trans hw1
  have HB4 := Lib.hid (HB3.out.ext hw1)
  obtain ⟨p0, p1, p2, p3, -⟩ := four HB4.out
  clear hv1 hv2 hv3 hv4
  have HBa := HB4.out.ext ((Ext.refl w1).alloc (.cells #[.string S] 9))
  obtain ⟨q0, q1, q2, q3, -⟩ := four HBa
  have hE4 := hE.ext (hx4.alloc (.cells #[.string S] 9))
  have HBB := Lib.hid HBa
  have hx4' := hx4.alloc (.cells #[.string S] 9)
  clear HBa p0 p1 p2 p3
  go_wp2_with fail
  refine (HP1.out _ w1.heap.size hE4 (heap_alloc_new w1 _)).mono ?_
  rintro e w5 ⟨v, rfl, -, hx5, A, c, rfl, hpl⟩
  have hx05 := hx4'.trans hx5
  have HB5 := Lib.hid (HBB.out.ext hx5)
  have hF : F1 = [⟨a, i, t, s⟩] := by
    have h1 := HN1.out
    have h2 := HM.out
    match F1, h1, h2 with
    | [x], _, h2 => rw [List.mem_singleton.1 h2]
    | [], h1, _ => cases h1
    | _ :: _ :: _, h1, _ => simp at h1
  rw [hF] at hpl
  obtain ⟨b5, rfl, hc5⟩ := hpl.at_ (by simp)
  obtain ⟨k0, k1, k2, k3⟩ := hc5 0 (by simp)
  simp only [Nat.zero_mul, Nat.zero_add, List.getElem_cons_zero] at k0 k1 k2 k3
  have hr5 := hpl.room
  have hm5 := hpl.max
  unfold maxLen at hm5
  have hgd : ∀ W, (eqGuard .eql 38 (.tmp 82) (.tmp 83) (.agg #[.int .u32 a, .int .i64 i, .int .i64 t, .string s]) (.agg #[.int .u32 a, .int .i64 i, .int .i64 t, .string s])).run Tryz.prog W = .ok () W := fun W => run_eqGuard_agg W .eql _ _ _ _ _ (by kernel_rfl)
  have HP2' := Lib.hid (fun W b (hE : Env W) (hb : W.heap[b]? = some (.cells #[.string (S.extract 0 k), .string (S.extract k Z)] 9 (0, 0))) => (HP2.out W b hE hb).mono fun e w' ⟨v, h1, h2, h3, _⟩ => (⟨v, h1, h2, h3⟩ : ∃ v, e = Ending.returned v ∧ SliceN 0 w' v ∧ Ext W w'))
  have HP3' := Lib.hid (fun W b (hE : Env W) (hb : W.heap[b]? = some (.cells #[.string S] 9 (0, 0))) => (HP3.out W b hE hb).mono fun e w' ⟨v, h1, h2, h3, _⟩ => (⟨v, h1, h2, h3⟩ : ∃ v, e = Ending.returned v ∧ SliceN 0 w' v ∧ Ext W w'))
  clear HP1 HP2 HP3 HR1 HR2 hF hpl hc5 HN1 HM HBB hx4 hx4' hx5 hx03 q0 q1 q2 q3
  go_wp2_with fail
  refine wp_region_grow (by kernel_rfl) (by kernel_rfl) ?_
  repeat
    first
    | (apply grow_is
       case h =>
        intro a w1 hg hs hsl
        clear hs
        try simp at hsl
        try (first | (refine Exists.elim (row_spec hsl) ?_; rintro b ⟨hv, _, hh⟩) | (refine Exists.elim (row_spec hsl.1) ?_; rintro b ⟨hv, _, hh⟩))
        have hp4 := four (HB5.out.ext hg)
        have k0 := hg.cell k0
        have k1 := hg.cell k1
        have k2 := hg.cell k2
        have k3 := hg.cell k3
        try (first | ((with_reducible refine Exists.elim (sliceN_spec hsl) ?_); rintro As ⟨cs, hv2⟩) | ((with_reducible refine Exists.elim (sliceN_spec hsl.1) ?_); rintro As ⟨cs, hv2⟩))
        unfold growAt guardOk
        go_simp
        try go_bits
        try simp only [↓IntWalk.iteOmega]
        first
          | exact grow_same
          | exact is_skip
          | exact rfl
          | with_reducible exact grow_call_ext (HW.out _ (hE.ext (hx05.trans hg))))
    | (refine grow_in (Row w5 #[.string (S.extract 0 k), .string (S.extract k Z)] 9 2 2) (Up.row _ _ _ _ _) ?_ ?_
       · intro a w1 hg hs hsl
         clear hs
         try simp at hsl
         try (first | (refine Exists.elim (row_spec hsl) ?_; rintro b ⟨hv, _, hh⟩) | (refine Exists.elim (row_spec hsl.1) ?_; rintro b ⟨hv, _, hh⟩))
         have hp4 := four (HB5.out.ext hg)
         have k0 := hg.cell k0
         have k1 := hg.cell k1
         have k2 := hg.cell k2
         have k3 := hg.cell k3
         try (first | ((with_reducible refine Exists.elim (sliceN_spec hsl) ?_); rintro As ⟨cs, hv2⟩) | ((with_reducible refine Exists.elim (sliceN_spec hsl.1) ?_); rintro As ⟨cs, hv2⟩))
         unfold growAt guardOk
         go_simp
         try go_bits
         try simp only [↓IntWalk.iteOmega]
         with_reducible exact row_new hg)
    | (refine grow_in (Row w5 #[.string S] 9 1 1) (Up.row _ _ _ _ _) ?_ ?_
       · intro a w1 hg hs hsl
         clear hs
         try simp at hsl
         try (first | (refine Exists.elim (row_spec hsl) ?_; rintro b ⟨hv, _, hh⟩) | (refine Exists.elim (row_spec hsl.1) ?_; rintro b ⟨hv, _, hh⟩))
         have hp4 := four (HB5.out.ext hg)
         have k0 := hg.cell k0
         have k1 := hg.cell k1
         have k2 := hg.cell k2
         have k3 := hg.cell k3
         try (first | ((with_reducible refine Exists.elim (sliceN_spec hsl) ?_); rintro As ⟨cs, hv2⟩) | ((with_reducible refine Exists.elim (sliceN_spec hsl.1) ?_); rintro As ⟨cs, hv2⟩))
         unfold growAt guardOk
         go_simp
         try go_bits
         try simp only [↓IntWalk.iteOmega]
         with_reducible exact row_new hg)
    | (refine grow_in (SliceN 0) (Up.sliceN _) ?_ ?_
       · intro a w1 hg hs hsl
         clear hs
         try simp at hsl
         try (first | (refine Exists.elim (row_spec hsl) ?_; rintro b ⟨hv, _, hh⟩) | (refine Exists.elim (row_spec hsl.1) ?_; rintro b ⟨hv, _, hh⟩))
         have hp4 := four (HB5.out.ext hg)
         have k0 := hg.cell k0
         have k1 := hg.cell k1
         have k2 := hg.cell k2
         have k3 := hg.cell k3
         try (first | ((with_reducible refine Exists.elim (sliceN_spec hsl) ?_); rintro As ⟨cs, hv2⟩) | ((with_reducible refine Exists.elim (sliceN_spec hsl.1) ?_); rintro As ⟨cs, hv2⟩))
         unfold growAt guardOk
         go_simp
         try go_bits
         try simp only [↓IntWalk.iteOmega]
         ((with_reducible have hvv : a.tmps[93]?.getD undef = _ := hv); with_reducible exact grow_call_slice (HP2'.out _ _ (hE.ext (hx05.trans hg)) hh)))
    | (refine grow_in (SliceN 0) (Up.sliceN _) ?_ ?_
       · intro a w1 hg hs hsl
         clear hs
         try simp at hsl
         try (first | (refine Exists.elim (row_spec hsl) ?_; rintro b ⟨hv, _, hh⟩) | (refine Exists.elim (row_spec hsl.1) ?_; rintro b ⟨hv, _, hh⟩))
         have hp4 := four (HB5.out.ext hg)
         have k0 := hg.cell k0
         have k1 := hg.cell k1
         have k2 := hg.cell k2
         have k3 := hg.cell k3
         try (first | ((with_reducible refine Exists.elim (sliceN_spec hsl) ?_); rintro As ⟨cs, hv2⟩) | ((with_reducible refine Exists.elim (sliceN_spec hsl.1) ?_); rintro As ⟨cs, hv2⟩))
         unfold growAt guardOk
         go_simp
         try go_bits
         try simp only [↓IntWalk.iteOmega]
         ((with_reducible have hvv : a.tmps[102]?.getD undef = _ := hv); with_reducible exact grow_call_slice (HP3'.out _ _ (hE.ext (hx05.trans hg)) hh)))
  refine grow_fin ?_
  intro w1 hw1
  simp only [List.reverse_cons, List.reverse_nil, List.nil_append, List.cons_append, FinT, Is, forall_eq, List.setIfInBounds_toArray, List.set_cons_succ, List.set_cons_zero]
  intro v1 hv1 v2 hv2 v3 hv3 v4 hv4
  have hx6 := hx05.trans hw1
  go_wp2_with fail
  go_ret
  exact ⟨rfl, hx6⟩
end Go.Proofs.YtlkiaeelnbjchaaGreatDoor
