/- The contract of strings.IndexAny at the bytes 46 and 35, for every string. (Layer 52) -/
import Derived.Test.YthanegmaipckdaaDoorAsmLib
import Derived.Test.YthanegmaipckdaaDoorGrow
import Derived.Shelf.Strings.IndexAnyAll
import Derived.Laws.RangeAny
import Derived.Laws.Runes
import Derived.Lib.DecodeN
import Derived.Lib.RuneLoops
import Derived.WalkMore
import Derived.Lib.OthersKept
import Derived.Deep.QuietTactic
import Derived.BigQuiet
namespace Go.Proofs.YthanegmaipckdaaDoor
open Go.RowKit Go.Shelf
open Go.Lib hiding intOf
attribute [local simp] Slots Slot look Is Oper.looksAt Op.operands Call.operands
set_option linter.unusedVariables false

/-- a rune that begins with a high byte: its number, its width, its bytes -/
theorem decode_cover (s : ByteArray) (pos : Nat) (h : pos < s.size) (ha : 128 ≤ (s[pos]'h).toNat) :
    128 ≤ (Utf8.decode s pos).1 ∧ ((Utf8.decode s pos).1 < 55296 ∨ 57344 ≤ (Utf8.decode s pos).1) ∧ (Utf8.decode s pos).1 ≤ 1114111 ∧
    1 ≤ (Utf8.decode s pos).2 ∧ pos + (Utf8.decode s pos).2 ≤ s.size ∧ ∀ j (hj : j < s.size), pos ≤ j → j < pos + (Utf8.decode s pos).2 → 128 ≤ (s[j]'hj).toNat := by
  have hg : ∀ j (hj : j < s.size), s.get! j = s[j]'hj := fun j hj => by simp [ByteArray.get!, getElem!_pos, hj]; rfl
  have h0 : (s.get! pos).toNat < 256 := (s.get! pos).toNat_lt
  have h1 : (s.get! (pos + 1)).toNat < 256 := (s.get! (pos + 1)).toNat_lt
  have h2 : (s.get! (pos + 2)).toNat < 256 := (s.get! (pos + 2)).toNat_lt
  have h3 : (s.get! (pos + 3)).toNat < 256 := (s.get! (pos + 3)).toNat_lt
  have hb : 128 ≤ (s.get! pos).toNat := by rw [hg pos h]; exact ha
  have key : ∀ (R : Nat × Nat), Utf8.decode s pos = R → 128 ≤ R.1 ∧ (R.1 < 55296 ∨ 57344 ≤ R.1) ∧ R.1 ≤ 1114111 ∧ 1 ≤ R.2 ∧ pos + R.2 ≤ s.size ∧ R.2 ≤ 4 ∧
      (1 < R.2 → 128 ≤ (s.get! (pos + 1)).toNat) ∧ (2 < R.2 → 128 ≤ (s.get! (pos + 2)).toNat) ∧ (3 < R.2 → 128 ≤ (s.get! (pos + 3)).toNat) := by
    intro R hR
    rw [decode_at] at hR
    unfold decodeN at hR
    generalize (s.get! pos).toNat = b0 at *
    generalize (s.get! (pos + 1)).toNat = b1 at *
    generalize (s.get! (pos + 2)).toNat = b2 at *
    generalize (s.get! (pos + 3)).toNat = b3 at *
    repeat' split at hR
    all_goals subst hR
    all_goals simp only
    all_goals omega
  obtain ⟨k1, k2, k3, k4, k5, k6, k7, k8, k9⟩ := key _ rfl
  refine ⟨k1, k2, k3, k4, k5, fun j hj hlo hhi => ?_⟩
  rw [← hg j hj]
  have hc : j = pos ∨ j = pos + 1 ∨ j = pos + 2 ∨ j = pos + 3 := by omega
  rcases hc with rfl | rfl | rfl | rfl
  · exact hb
  · exact k7 (by omega)
  · exact k8 (by omega)
  · exact k9 (by omega)

theorem iter_ext (w : World) (s : ByteArray) (p : Nat) : Ext w (w.iter s p) := (Ext.refl w).alloc _

theorem validRune_hi (r : Int) (h1 : 128 ≤ r) (h2 : r < 55296 ∨ 57344 ≤ r) (h3 : r ≤ 1114111) (w : World) :
    Calls Tryd.prog 69 #[.int .i32 r] w fun e w' => e = .returned (.bool true) ∧ w = w' := by
  rcases h2 with h2 | h2
  all_goals
    go_enter Tryd.func69, Tryd.ntmps69
    go_wp2_with fail
    go_ret
    exact ⟨rfl, rfl⟩

set_option maxHeartbeats 4000000 in
set_option maxRecDepth 100000 in
theorem indexRune_hi (r : Nat) (h1 : 128 ≤ r) (h2 : r < 55296 ∨ 57344 ≤ r) (h3 : r ≤ 1114111) (w : World) :
    Calls Tryd.prog 46 #[.string ⟨#[46, 35]⟩, .int .i32 (r : Int)] w fun e w' => e = .returned (.int .i64 (-1)) ∧ Ext w w' := by
  by_cases he : r = 65533
  · subst he
    clear h1 h2 h3
    have hn0 : ∀ ty, (Instr.next (.pointer (some ⟨w.heap.size, 0, none⟩)) true ty).run Tryd.prog (w.iter ⟨#[46, 35]⟩ 0) = .ok (.tuple #[.bool true, .int .i64 0, .int .i32 46]) (w.iter ⟨#[46, 35]⟩ 1) := fun ty => run_next_ascii (P := Tryd.prog) w ⟨#[46, 35]⟩ 0 ty (by decide) (by decide)
    have hn1 : ∀ ty, (Instr.next (.pointer (some ⟨w.heap.size, 0, none⟩)) true ty).run Tryd.prog (w.iter ⟨#[46, 35]⟩ 1) = .ok (.tuple #[.bool true, .int .i64 1, .int .i32 35]) (w.iter ⟨#[46, 35]⟩ 2) := fun ty => run_next_ascii (P := Tryd.prog) w ⟨#[46, 35]⟩ 1 ty (by decide) (by decide)
    have hn2 : ∀ ty, (Instr.next (.pointer (some ⟨w.heap.size, 0, none⟩)) true ty).run Tryd.prog (w.iter ⟨#[46, 35]⟩ 2) = .ok (.tuple #[.bool false]) (w.iter ⟨#[46, 35]⟩ 2) := fun ty => run_next_end (P := Tryd.prog) w ⟨#[46, 35]⟩ 2 ty (by decide)
    go_enter Tryd.func46, Tryd.ntmps46
    go_wp2_with fail
    go_loopg [5, 6] 2 (fun g _ _ wx => ∃ i : Nat, i + g = 2 ∧ wx = w.iter ⟨#[46, 35]⟩ i)
    case atStart => exact ⟨0, by omega, rfl⟩
    case round =>
      obtain ⟨i, hig, rfl⟩ := hrel
      have hc : i = 0 ∨ i = 1 ∨ i = 2 := by omega
      rcases hc with rfl | rfl | rfl
      · obtain rfl : gk = 2 := by omega
        go_wp2_with fail
        go_roundg 1
        case measure => omega
        case rel => exact ⟨1, by omega, rfl⟩
      · obtain rfl : gk = 1 := by omega
        go_wp2_with fail
        go_roundg 0
        case measure => omega
        case rel => exact ⟨2, by omega, rfl⟩
      · go_wp2_with fail
        go_ret
        exact ⟨rfl, iter_ext _ _ _⟩
  · have hv : Utf8.valid (r : Int) = true := by
      unfold Utf8.valid
      simp
      omega
    obtain ⟨e1, e2, e3⟩ := encode_facts (r : Int) hv (by omega)
    have hr0 : ¬ ((r : Int) = 65533) := by omega
    have hr1 : (128 : Int) ≤ (r : Int) := by omega
    have hr2 : (r : Int) ≤ 1114111 := by omega
    have hr3 : (r : Int) < 55296 ∨ (57344 : Int) ≤ (r : Int) := by omega
    have hvr := fun W => validRune_hi (r : Int) hr1 hr3 hr2 W
    clear he hv h1 h2 h3
    obtain ⟨rs, hrs⟩ : ∃ rs, rs = Utf8.encode (r : Int) := ⟨_, rfl⟩
    rw [← hrs] at e1 e2 e3
    have HVR := Lib.hid hvr
    have hcv : ∀ W, (convert 21 9 (.int .i32 (r : Int))).run Tryd.prog W = .ok (.string rs) W := fun W => by
      rw [hrs]; exact run_convert_int_string W _ _ _ _ (by kernel_rfl) (by kernel_rfl)
    have HCV := Lib.hid hcv
    clear hvr hrs hcv
    by_cases h2 : rs.size = 2
    · obtain ⟨h11, e4⟩ : ∃ h : 1 < rs.size, 128 ≤ (rs[1]'h).toNat := by
        have := e3 (by omega)
        simp only [h2] at this
        exact ⟨by omega, this⟩
      clear e1 e2 e3
      have hne : ((((⟨#[46, 35]⟩ : ByteArray)[1]'(by decide)).toNat : Int) != ((rs[1].toNat : Nat) : Int)) = true := by
        have e : ((⟨#[46, 35]⟩ : ByteArray)[1]'(by decide)).toNat = 35 := rfl
        rw [bne_iff_ne, e]; omega
      have HIB : Hid (∀ W, Calls Tryd.prog 68 #[.string ByteArray.empty, .int .u8 (rs[1].toNat : Int)] W fun e W' => e = .returned (.int .i64 (-1)) ∧ W = W') := by
        intro W
        refine (Tryd.strings_IndexByte ByteArray.empty (rs[1].toNat : Int) W).mono ?_
        rintro e W' ⟨rfl, rfl⟩
        exact ⟨rfl, rfl⟩
      go_enter Tryd.func46, Tryd.ntmps46
      go_wp2_with fail
      refine (HVR.out _).mono ?_
      rintro e w1 ⟨rfl, rfl⟩
      have hcv := HCV.out
      go_wp2_with fail
      go_step3
      go_wp2_with fail
      go_loopw [9, 10] (fun i f wr => i = .int .i64 1 ∧ f = .int .i64 0 ∧ wr = w) (fun _ _ _ => 0)
      case atStart => exact ⟨rfl, rfl, rfl⟩
      case round =>
        obtain ⟨rfl, rfl, rfl⟩ := hrel
        go_wp2_with fail
        go_step3
        go_wp2_with fail
        go_quiet (fail)
        go_wp2_with fail
        refine wp_region_grow (by kernel_rfl) (by kernel_rfl) ?_
        repeat
          first
          | (apply grow_is
             case h =>
              intro a w1 hg hs hsl
              clear hs
              try simp at hsl
              try (first | (refine Exists.elim (row_spec hsl) ?_; rintro b ⟨hv, _, hh⟩) | (refine Exists.elim (row_spec hsl.1) ?_; rintro b ⟨hv, _, hh⟩))
              unfold growAt guardOk
              go_simp
              try go_bits
              try simp only [↓IntWalk.iteOmega]
              first
                | exact grow_same
                | exact is_skip
                | exact rfl
                | with_reducible exact grow_call_same (HIB.out _))
        refine grow_fin ?_
        intro w1 hw1
        simp only [List.reverse_cons, List.reverse_nil, List.nil_append, List.cons_append, FinT, Is, forall_eq, List.setIfInBounds_toArray, List.set_cons_succ, List.set_cons_zero]
        go_wp2_with fail
        rw [Exit.noGoto_ret]
        simp only [Exit.inBlock]
        change Exit.noGoto _ Exit.ret _ _
        rw [Exit.noGoto_ret]
        simp only [Exit.inBlock, Exit.then]
        rw [Exit.noGoto_ret]
        go_ret
        exact ⟨rfl, ((Ext.refl _).drewN _).trans hw1⟩
    · have h3 : ¬ ((rs.size : Int) - 1 < 2) := by omega
      have h4 : (2 : Int) ≤ (rs.size : Int) - 1 := by omega
      have h5 : decide ((rs.size : Int) - 1 < 2) = false := decide_eq_false h3
      clear e3 h2
      go_enter Tryd.func46, Tryd.ntmps46
      go_wp2_with fail
      refine (HVR.out _).mono ?_
      rintro e w1 ⟨rfl, rfl⟩
      have hcv := HCV.out
      go_wp2_with fail
      go_step3
      go_wp2_with fail
      go_loopw [9, 10] (fun i f wr => i = .int .i64 ((rs.size : Int) - 1) ∧ f = .int .i64 0 ∧ wr = w) (fun _ _ _ => 0)
      case atStart => exact ⟨rfl, rfl, rfl⟩
      case round =>
        obtain ⟨rfl, rfl, rfl⟩ := hrel
        go_wp2_with fail
        all_goals first
          | (rw [Exit.noGoto_ret]; go_ret; exact ⟨rfl, Ext.refl _⟩)
          | (exfalso; omega)

theorem px_any (b : UInt8) (h : 128 ≤ b.toNat) : ([46, 35] : List UInt8).contains b = false := by
  rw [List.contains_eq_mem, decide_eq_false_iff_not]
  intro hm
  simp at hm
  rcases hm with rfl | rfl
  · exact absurd h (by decide)
  · exact absurd h (by decide)

set_option maxHeartbeats 4000000 in
set_option maxRecDepth 100000 in
theorem indexAny_px (s : ByteArray) (w : World) (hs : s.size ≤ 1000000000) :
    Calls Tryd.prog 35 #[.string s, .string ⟨#[46, 35]⟩] w fun e w' => e = .returned (.int .i64 (Lib.indexAny s.data.toList [46, 35])) ∧ Ext w w' := by
  by_cases h8 : 8 < s.size
  · refine (Tryd.strings_IndexAny_long (zero_of_info (P := Tryd.prog) (by kernel_rfl : (Tryd.prog.info? 72).map (fun i => (i.zero, i.size)) = some (some (.agg (Array.replicate 256 (.bool false))), 256))).1 s ⟨#[46, 35]⟩ w (by decide) h8 (by omega) (by decide) (fun j b hb => ?_)).mono ?_
    · match j, hb with
      | 0, hb => simp at hb; subst hb; decide
      | 1, hb => simp at hb; subst hb; decide
    · rintro e w' ⟨rfl, rfl⟩
      exact ⟨rfl, ((Ext.refl _).alloc _).alloc _⟩
  have hus := fun W => Tryd.strings_shouldUseASCIISet (s.size : Int) W
  rw [decide_eq_false (show ¬ (8 : Int) < (s.size : Int) by omega)] at hus
  have HUS : Hid (∀ W, Calls Tryd.prog 47 #[.int .i64 (s.size : Int)] W fun e w' => e = .returned (.bool false) ∧ W = w') := fun W => (hus W).mono fun e w' ⟨he, hw⟩ => ⟨he, hw.symm⟩
  clear hus
  go_enter Tryd.func35, Tryd.ntmps35
  go_wp2_with fail
  refine (HUS.out _).mono ?_
  rintro e w1 ⟨rfl, rfl⟩
  go_wp2_with fail
  have hit0 : (w.alloc (.stringIter s 0)).heap[w.heap.size]? = some (.stringIter s 0) := by show (w.heap.push _)[w.heap.size]? = _; simp
  go_loopg [9, 10] s.size (fun g _ _ wx => ∃ i : Nat, i + g = s.size ∧ wx.heap[w.heap.size]? = some (.stringIter s i) ∧ Ext w wx ∧ Lib.NoAny s.data.toList [46, 35] i)
  case atStart => exact ⟨0, by omega, hit0, (Ext.refl _).alloc _, Lib.NoAny.zero _ _⟩
  case round =>
    obtain ⟨i, hig, hit, hx, hno⟩ := hrel
    have HN := Lib.hid hno
    have HIT := Lib.hid hit
    clear hno hit
    by_cases hi : i < s.size
    · have hnx := fun ty => Lib.run_next_any_at (P := Tryd.prog) wr w.heap.size s i ty HIT.out hi
      have hit2 := Lib.iterAt_heap wr w.heap.size s i (i + (Utf8.decode s i).2) HIT.out
      have hx2 : Ext w (wr.iterAt w.heap.size s (i + (Utf8.decode s i).2)) := Lib.below_iterAt hx (Nat.le_refl _) s _
      by_cases ha : (s[i]).toNat < 128
      · have hd := decode_ascii s i hi ha
        rw [hd] at hnx hit2 hx2
        simp only at hnx hit2 hx2
        generalize hW2 : wr.iterAt w.heap.size s (i + 1) = w2 at *
        have hget : s.data.toList[i]? = some s[i] := List.getElem?_eq_getElem (show i < s.data.toList.length from hi)
        have hcon := Lib.contains_iff_indexByte [46, 35] s[i]
        have hback : (((s[i]).toNat : Int)).toNat.toUInt8 = s[i] := by simp
        have hir := fun W => Tryd.strings_IndexRune_ascii ⟨#[46, 35]⟩ ((s[i]).toNat : Int) W (by omega) (by omega)
        rw [hback] at hir
        cases hin : ([46, 35] : List UInt8).contains s[i] with
        | false =>
          rw [hin] at hcon
          have hlt : ¬ ((0 : Int) ≤ Lib.indexByte [46, 35] s[i]) := of_decide_eq_false hcon.symm
          have hno2 := Lib.hid (HN.out.succ hget hin)
          have hge := Lib.hid hir
          have HNX := hnx
          have HIT2 := Lib.hid hit2
          clear hcon hback hir hin hget hd hit2 hW2
          go_wp2_with fail
          refine (hge.out _).mono ?_
          rintro e w3 ⟨rfl, rfl⟩
          go_wp2_with fail
          go_roundg (s.size - (i + 1))
          case measure => omega
          case rel => exact ⟨i + 1, by omega, HIT2.out, hx2, hno2.out⟩
        | true =>
          rw [hin] at hcon
          have hge0 : (0 : Int) ≤ Lib.indexByte [46, 35] s[i] := of_decide_eq_true hcon.symm
          have hfin := Lib.hid (Lib.indexAny_hit HN.out hget hin)
          have hge := Lib.hid hir
          clear hcon hback hir hin hget hd hit2 hW2
          go_wp2_with fail
          refine (hge.out _).mono ?_
          rintro e w3 ⟨rfl, rfl⟩
          go_wp2_with fail
          go_ret
          exact ⟨ret_int (by rw [hfin.out]), hx2⟩
      · obtain ⟨c1, c2, c3, c4, c5, c6⟩ := decode_cover s i hi (by omega)
        have hir := fun W => indexRune_hi (Utf8.decode s i).1 c1 c2 c3 W
        have hno2 : Lib.NoAny s.data.toList [46, 35] (i + (Utf8.decode s i).2) := by
          intro j b hj hb
          by_cases hji : j < i
          · exact HN.out j b hji hb
          · obtain ⟨hjs, hjb⟩ := List.getElem?_eq_some_iff.1 hb
            have := c6 j hjs (by omega) hj
            exact px_any b (by rw [← hjb]; exact this)
        have HNO := Lib.hid hno2
        have hge := Lib.hid hir
        generalize (Utf8.decode s i).1 = rr at *
        generalize (Utf8.decode s i).2 = kk at *
        generalize hW2 : wr.iterAt w.heap.size s (i + kk) = w2 at *
        have HIT2 := Lib.hid hit2
        clear hir hno2 c6 hit2 hW2
        go_wp2_with fail
        refine (hge.out _).mono ?_
        rintro e w3 ⟨rfl, hx3⟩
        go_wp2_with fail
        go_roundg (s.size - (i + kk))
        case measure => omega
        case rel => exact ⟨i + kk, by omega, (hx3.block _ (Array.getElem?_eq_some_iff.1 HIT2.out).1).trans HIT2.out, hx2.trans hx3, HNO.out⟩
    · obtain rfl : i = s.size := by omega
      have hnx := fun ty => Lib.run_next_end_at (P := Tryd.prog) wr w.heap.size s s.size ty HIT.out (by omega)
      have hfin : Hid (Lib.indexAny s.data.toList [46, 35] = -1) := Lib.indexAny_none HN.out
      go_wp2_with fail
      go_ret
      exact ⟨ret_int (by rw [hfin.out]), hx⟩
end Go.Proofs.YthanegmaipckdaaDoor
