/- The machine executes its instructions, first part. (Layer 17) -/
import Derived.Test.YtimegcnpembhkaaDoorMachJ1
import Derived.Deep.RegionHeld3
import Derived.Deep.DrawnRows
import Derived.Test.YtimegcnpembhkaaDoorGrowT
import Derived.Deep.AppendLies
import Derived.Deep.RegionLaw
namespace Go.Proofs.YtimegcnpembhkaaDoor
open Go.RowKit
open Go.Lib hiding intOf
set_option linter.unusedVariables false

def XPost (B b bm bb : Nat) (M : MS) (steps : Nat) (r : Option MS) (w : World) (e : Ending) (w' : World) : Prop :=
  match r with
  | some M' => e = .returned (.tuple #[]) ∧ ∃ dv cv iv ov, LibM w' B b bm bb M' steps false dv cv iv ov ∧ Below B w w'
  | none => e = .panicked [{ v := trapV, recovered := false }] ∧ ∃ M' dv cv iv ov, LibM w' B b bm bb M' steps false dv cv iv ov ∧ (M'.out, M'.res) = (M.out, M.res) ∧ Below B w w'
theorem list_end {α : Type} (l : List α) : l = [] ∨ ∃ l' x, l = l' ++ [x] := by
  rcases List.eq_nil_or_concat l with h | ⟨l', x, h⟩
  · exact .inl h
  · exact .inr ⟨l', x, by rw [h, List.concat_eq_append]⟩
theorem popS_snoc {m : MS} {l : List Nat} {v : Nat} (h : m.data = l ++ [v]) : popS m = some (v, { m with data := l }) := by
  unfold popS
  rw [h]
  simp
theorem popS_nil {m : MS} (h : m.data = []) : popS m = none := by unfold popS; rw [h]; rfl
theorem LibM.drew {w : World} {B b bm bb : Nat} {M : MS} {steps : Nat} {st : Bool} {dv cv iv ov : Value} (h : LibM w B b bm bb M steps st dv cv iv ov) : LibM w.drew B b bm bb M steps st dv cv iv ov := by
  obtain ⟨h1, h2, ⟨p1, p2, p3, p4, p5, p6, p7, p8, p9, p10⟩, h4⟩ := h
  refine ⟨h1, h2, ⟨p1, p2, p3, p4, p5, ?_, p7, p8, p9, p10⟩, h4⟩
  obtain ⟨A, n, c, e, hl, hA⟩ := p6
  exact ⟨A, n, c, e, ⟨hl.len, hl.room, hl.max, hl.at_⟩, hA⟩
theorem libM_end {w : World} {B b bm bb : Nat} {M : MS} {steps : Nat} {dv cv iv ov : Value} (h : LibM w B b bm bb M steps false dv cv iv ov) : XPost B b bm bb M steps (some M) w (.returned (.tuple #[])) w := ⟨rfl, dv, cv, iv, ov, h, Below.refl _ _⟩
set_option maxRecDepth 100000 in
theorem exec_blank (B b bm bb : Nat) (M : MS) (steps : Nat) (dv cv iv ov : Value) (w : World) (h : LibM w B b bm bb M steps false dv cv iv ov) (c : Nat) (hc : c = 32 ∨ c = 10) :
    Calls Tryd.prog 83 #[.pointer (some ⟨b, 0, none⟩), .int .u32 (c : Int)] w (XPost B b bm bb M steps (stepS M c) w) := by
  rcases hc with rfl | rfl
  · rw [show stepS M 32 = some M from rfl]
    have H := Lib.hid (libM_end h)
    clear h
    go_enter Tryd.func83, Tryd.ntmps83
    go_wp2_with fail
    go_end0
    exact H.out
  · rw [show stepS M 10 = some M from rfl]
    have H := Lib.hid (libM_end h)
    clear h
    go_enter Tryd.func83, Tryd.ntmps83
    go_wp2_with fail
    go_end0
    exact H.out
set_option maxRecDepth 100000 in
set_option maxHeartbeats 3200000 in
theorem exec_fetch (B b bm bb : Nat) (M : MS) (steps : Nat) (dv cv iv ov : Value) (w : World) (h : LibM w B b bm bb M steps false dv cv iv ov) (hd : M.data.length ≤ 256) (hBw : B ≤ w.heap.size) :
    Calls Tryd.prog 83 #[.pointer (some ⟨b, 0, none⟩), .int .u32 64] w (XPost B b bm bb M steps (stepS M 64) w) := by
  have hs : stepS M 64 = (addrS M).bind fun (a, m1) => pushS (m1.mem a) m1 := rfl
  rw [hs]
  obtain ⟨⟨c0, c1, c2, c3, c4, c5, c6, c7, c8, c9⟩, hfz, hlt⟩ := ten h.1
  have HB := Lib.hid hBw
  rcases list_end M.data with h0 | ⟨l, a, h0⟩
  · have HA := Lib.hid (addr_none B b bm bb M steps false dv cv iv ov w.drew h.drew h0)
    have hr : ((addrS M).bind fun (a, m1) => pushS (m1.mem a) m1) = none := by unfold addrS; rw [popS_nil h0]; rfl
    rw [hr]
    have H := Lib.hid h.drew
    clear h hs hr h0 hfz
    go_enter Tryd.func83, Tryd.ntmps83
    go_wp2_with fail
    go_region_with (go_at_call 107; refine HA.out.mono ?_; rintro e w1 ⟨rfl, rfl⟩; refine (fun (_ : wpAny Tryd.prog .any #[] (fun _ _ _ => True) 0 #[] { tmps := #[], defers := [] } w) => ⟨rfl, rfl, M, dv, cv, iv, ov, H.out, rfl, (Below.refl B w).drew⟩) ?_)
    all_goals trivial
  · rw [h0, List.length_append] at hd
    simp only [List.length_singleton] at hd
    have hp : addrS M = if a < 262144 then some (a, { M with data := l }) else none := by unfold addrS; rw [popS_snoc h0]
    rw [hp]
    by_cases ha : a < 262144
    · rw [if_pos ha]
      have hr : (((some (a, { M with data := l }) : Option (Nat × MS))).bind fun (a, m1) => pushS (m1.mem a) m1) = some { M with data := l ++ [M.mem a] } := by
        show pushS (M.mem a) { M with data := l } = _
        unfold pushS
        rw [if_pos (by show l.length < 256; omega)]
      rw [hr]
      have HA := Lib.hid (addr_any B b bm bb M steps false dv cv iv ov l a w.drew h.drew h0 (by omega) ha)
      have HPU := Lib.hid (fun W dv1 (hW : LibM W B b bm bb { M with data := l } steps false dv1 cv iv ov) (hz : B ≤ W.heap.size) => push_any B b bm bb { M with data := l } steps false dv1 cv iv ov (M.mem a) W hW (by show l.length < 256; omega) hz)
      have haI : (a : Int) < 262144 := by omega
      have haJ : (0 : Int) ≤ (a : Int) := by omega
      clear h hs hr h0 hfz hp
      go_enter Tryd.func83, Tryd.ntmps83
      go_wp2_with fail
      go_region_with (first
        | (go_at_call 107; refine HA.out.mono ?_; rintro e w1 ⟨dv1, rfl, h1, hb1⟩; have hmc := (h1.2.2.1.mem.cell ha).1; have hc1 := (ten h1.1).1.1)
        | (go_at_call 106; refine (HPU.out _ dv1 h1 (Nat.le_trans HB.out hb1.size)).mono ?_; rintro e w2 ⟨dv2, rfl, h2, hb2⟩))
      all_goals (go_wp2; go_end0; exact ⟨rfl, dv2, cv, iv, ov, h2, ((Below.refl B w).drew.trans hb1).trans hb2⟩)
    · rw [if_neg ha]
      have HA := Lib.hid (addr_far B b bm bb M steps false dv cv iv ov l a w.drew h.drew h0 (by omega) (by omega))
      clear h hs h0 hfz hp
      go_enter Tryd.func83, Tryd.ntmps83
      go_wp2_with fail
      go_region_with (go_at_call 107; refine HA.out.mono ?_; rintro e w1 ⟨dv1, rfl, h1, hb1⟩; refine (fun (_ : wpAny Tryd.prog .any #[] (fun _ _ _ => True) 0 #[] { tmps := #[], defers := [] } w) => ⟨rfl, rfl, _, dv1, cv, iv, ov, h1, rfl, (Below.refl B w).drew.trans hb1⟩) ?_)
      all_goals trivial
/-- what a store into the machine's own cells keeps -/
theorem LibM.cell {w : World} {B b bm bb : Nat} {M M' : MS} {steps steps' : Nat} {st st' : Bool} {dv cv iv ov dv' cv' iv' ov' : Value} (h : LibM w B b bm bb M steps st dv cv iv ov) (j : Nat) (v : Value)
    (hx : ([.slice (some ⟨bm, 0, none⟩) 262144 262144, .int .u32 (M.pc : Int), dv, cv, iv, ov, .bool M.digit, .int .i64 (steps : Int), .bool st, .map (some bb)] : List Value).set j v = [.slice (some ⟨bm, 0, none⟩) 262144 262144, .int .u32 (M'.pc : Int), dv', cv', iv', ov', .bool M'.digit, .int .i64 (steps' : Int), .bool st', .map (some bb)])
    (hp : Parts w B bm M' dv' cv' iv' ov') : LibM (w.setCell ⟨b, j, none⟩ v) B b bm bb M' steps' st' dv' cv' iv' ov' := by
  obtain ⟨h1, h2, -, h4⟩ := h
  refine ⟨?_, h2, hp.keep h2 (blk_not h1 (by decide)) (blk_not h1 (by decide)) (blk_not h1 (by decide)) (Keep.set j v), map_set h4 _ _⟩
  have := blk_set h1 j v
  rwa [hx] at this
theorem Parts.same {w : World} {B bm : Nat} {M M' : MS} {dv cv iv ov : Value} (h : Parts w B bm M dv cv iv ov) (h1 : M'.mem = M.mem) (h2 : M'.data = M.data) (h3 : M'.calls = M.calls) (h4 : M'.input = M.input) (h5 : M'.out = M.out) (h6 : M'.res = M.res := by rfl) : Parts w B bm M' dv cv iv ov := by
  obtain ⟨a, b, c, d, e, f, g, i, j, k⟩ := h
  exact ⟨a, by rw [h1]; exact b, by rw [h2]; exact c, by rw [h3]; exact d, by rw [h5]; exact e, by rw [h4]; exact f, g, i, j, by rw [h6]; exact k⟩
theorem LibM.mem_set {w : World} {B b bm bb : Nat} {M : MS} {steps : Nat} {st : Bool} {dv cv iv ov : Value} (h : LibM w B b bm bb M steps st dv cv iv ov) (a v : Nat) : LibM (w.setCell ⟨bm, a, none⟩ (.int .u32 (v : Int))) B b bm bb { M with mem := setM M.mem a v } steps st dv cv iv ov := by
  obtain ⟨h1, h2, h3, h4⟩ := h
  have hne : b ≠ bm := by
    intro e
    obtain ⟨arr, m1, -⟩ := h3.mem
    rw [← e] at m1
    exact blk_not h1 (by decide) _ _ m1
  refine ⟨?_, h2, h3.mem_set a v, map_set h4 _ _⟩
  show (World.heap _)[b]? = _
  rw [Below.heap_setCell _ _ _ _ hne]
  exact h1
set_option maxRecDepth 100000 in
set_option maxHeartbeats 3200000 in
theorem exec_jump (B b bm bb : Nat) (M : MS) (steps : Nat) (dv cv iv ov : Value) (w : World) (h : LibM w B b bm bb M steps false dv cv iv ov) (hd : M.data.length ≤ 256) (hBw : B ≤ w.heap.size) :
    Calls Tryd.prog 83 #[.pointer (some ⟨b, 0, none⟩), .int .u32 63] w (XPost B b bm bb M steps (stepS M 63) w) := by
  have hs : stepS M 63 = (popS M).bind fun (t, m1) => (popS m1).bind fun (v, m2) => some (if v = 0 then { m2 with pc := t } else m2) := rfl
  rw [hs]
  rcases list_end M.data with h0 | ⟨l, t, h0⟩
  · have HA := Lib.hid (pop_none B b bm bb M steps false dv cv iv ov w h h0)
    rw [popS_nil h0]
    have H := Lib.hid h
    clear h hs h0
    go_enter Tryd.func83, Tryd.ntmps83
    go_wp2_with fail
    refine HA.out.mono ?_
    rintro e w1 ⟨rfl, rfl⟩
    go_wp2_with fail
    exact ⟨rfl, rfl, M, dv, cv, iv, ov, H.out, rfl, Below.refl B w⟩
  · rw [h0, List.length_append] at hd
    simp only [List.length_singleton] at hd
    have HA := Lib.hid (pop_any B b bm bb M steps false dv cv iv ov l t w h h0 (by omega))
    rw [popS_snoc h0]
    simp only [Option.bind_some]
    rcases list_end l with h1 | ⟨l2, v, h1⟩
    · subst h1
      rw [popS_nil (m := { M with data := [] }) rfl]
      have HB := Lib.hid (fun W dv1 (hW : LibM W B b bm bb { M with data := [] } steps false dv1 cv iv ov) => pop_none B b bm bb { M with data := [] } steps false dv1 cv iv ov W hW rfl)
      clear h hs h0
      go_enter Tryd.func83, Tryd.ntmps83
      go_wp2_with fail
      refine HA.out.mono ?_
      rintro e w1 ⟨dv1, rfl, h1, hb1⟩
      have H1 := Lib.hid h1
      clear h1
      go_wp2_with fail
      refine (HB.out _ _ H1.out).mono ?_
      rintro e w2 ⟨rfl, rfl⟩
      go_wp2_with fail
      exact ⟨rfl, rfl, _, dv1, cv, iv, ov, H1.out, rfl, hb1⟩
    · subst h1
      rw [popS_snoc (m := { M with data := l2 ++ [v] }) rfl]
      simp only [Option.bind_some]
      rw [List.length_append] at hd
      simp only [List.length_singleton] at hd
      have HB := Lib.hid (fun W dv1 (hW : LibM W B b bm bb { M with data := l2 ++ [v] } steps false dv1 cv iv ov) => pop_any B b bm bb { M with data := l2 ++ [v] } steps false dv1 cv iv ov l2 v W hW rfl (by omega))
      by_cases hv : v = 0
      · subst hv
        rw [if_pos rfl]
        clear h hs h0
        go_enter Tryd.func83, Tryd.ntmps83
        go_wp2_with fail
        refine HA.out.mono ?_
        rintro e w1 ⟨dv1, rfl, h1, hb1⟩
        have H1 := Lib.hid h1
        clear h1
        go_wp2_with fail
        refine (HB.out _ _ H1.out).mono ?_
        rintro e w2 ⟨dv2, rfl, h2, hb2⟩
        obtain ⟨⟨c0, c1, c2, c3, c4, c5, c6, c7, c8, c9⟩, hfz, hlt⟩ := ten h2.1
        have f1 := hfz 1
        have H2 := Lib.hid h2
        clear h2 hfz
        go_wp2_with fail
        go_end0
        exact ⟨rfl, dv2, cv, iv, ov, H2.out.cell 1 _ rfl (H2.out.2.2.1.same rfl rfl rfl rfl rfl), (hb1.trans hb2).setCell H2.out.2.1 _⟩
      · rw [if_neg hv]
        have hv0 : ((v : Int) == 0) = false := by rw [beq_eq_false_iff_ne]; omega
        clear h hs h0
        go_enter Tryd.func83, Tryd.ntmps83
        go_wp2_with fail
        refine HA.out.mono ?_
        rintro e w1 ⟨dv1, rfl, h1, hb1⟩
        have H1 := Lib.hid h1
        clear h1
        go_wp2_with fail
        refine (HB.out _ _ H1.out).mono ?_
        rintro e w2 ⟨dv2, rfl, h2, hb2⟩
        have H2 := Lib.hid h2
        clear h2
        go_wp2_with fail
        go_end0
        exact ⟨rfl, dv2, cv, iv, ov, H2.out, hb1.trans hb2⟩
end Go.Proofs.YtimegcnpembhkaaDoor
namespace Go.Proofs.YtimegcnpembhkaaDoor
open Go.RowKit
open Go.Lib hiding intOf
set_option linter.unusedVariables false

theorem bin_add (a b : Nat) (w : World) (ha : a < 4294967296) (hb : b < 4294967296) : Calls Tryd.prog 74 #[.int .u32 (a : Int), .int .u32 (b : Int)] w fun e w' => e = .returned (.int .u32 (((a + b) % 4294967296 : Nat) : Int)) ∧ w = w' := by
  go_enter Tryd.func74, Tryd.ntmps74
  go_wp2
  go_ret
  exact ⟨ret_int (by omega), rfl⟩
theorem bin_sub (a b : Nat) (w : World) (ha : a < 4294967296) (hb : b < 4294967296) : Calls Tryd.prog 75 #[.int .u32 (a : Int), .int .u32 (b : Int)] w fun e w' => e = .returned (.int .u32 (((a + 4294967296 - b) % 4294967296 : Nat) : Int)) ∧ w = w' := by
  go_enter Tryd.func75, Tryd.ntmps75
  go_wp2
  go_ret
  exact ⟨ret_int (by omega), rfl⟩
theorem bin_mul (a b : Nat) (w : World) (ha : a < 4294967296) (hb : b < 4294967296) : Calls Tryd.prog 76 #[.int .u32 (a : Int), .int .u32 (b : Int)] w fun e w' => e = .returned (.int .u32 ((a * b % 4294967296 : Nat) : Int)) ∧ w = w' := by
  go_enter Tryd.func76, Tryd.ntmps76
  go_wp2
  go_ret
  exact ⟨ret_int (by simp), rfl⟩
theorem bin_div (a b : Nat) (w : World) (ha : a < 4294967296) (hb : b < 4294967296) (h0 : b ≠ 0) : Calls Tryd.prog 77 #[.int .u32 (a : Int), .int .u32 (b : Int)] w fun e w' => e = .returned (.int .u32 ((a / b : Nat) : Int)) ∧ w = w' := by
  have HC := Lib.hid (fun W => check_true W)
  have hb0 : ((b : Int) != 0) = true := by simpa using h0
  have hb1 : ¬ (b : Int) = 0 := by omega
  go_enter Tryd.func77, Tryd.ntmps77
  go_wp2_with fail
  refine (HC.out _).mono ?_
  rintro e w1 ⟨rfl, rfl⟩
  go_wp2_with fail
  go_ret
  exact ⟨ret_int (by
    have hq : (a : Int) / (b : Int) = ((a / b : Nat) : Int) := (Int.natCast_ediv a b).symm
    have hl := Nat.div_le_self a b
    rw [hq]
    generalize a / b = q at *
    omega), rfl⟩
theorem bin_div0 (a : Nat) (w : World) : Calls Tryd.prog 77 #[.int .u32 (a : Int), .int .u32 ((0 : Nat) : Int)] w fun e w' => e = .panicked [{ v := trapV, recovered := false }] ∧ w = w' := by
  have HC := Lib.hid (fun W => check_false W)
  go_enter Tryd.func77, Tryd.ntmps77
  go_wp2_with fail
  refine (HC.out _).mono ?_
  rintro e w1 ⟨rfl, rfl⟩
  go_wp2_with fail
  exact ⟨rfl, rfl, rfl⟩
theorem bin_rem (a b : Nat) (w : World) (ha : a < 4294967296) (hb : b < 4294967296) (h0 : b ≠ 0) : Calls Tryd.prog 79 #[.int .u32 (a : Int), .int .u32 (b : Int)] w fun e w' => e = .returned (.int .u32 ((a % b : Nat) : Int)) ∧ w = w' := by
  have HC := Lib.hid (fun W => check_true W)
  have hb0 : ((b : Int) != 0) = true := by simpa using h0
  have hb1 : ¬ (b : Int) = 0 := by omega
  go_enter Tryd.func79, Tryd.ntmps79
  go_wp2_with fail
  refine (HC.out _).mono ?_
  rintro e w1 ⟨rfl, rfl⟩
  go_wp2_with fail
  go_ret
  exact ⟨ret_int (by simp), rfl⟩
theorem bin_rem0 (a : Nat) (w : World) : Calls Tryd.prog 79 #[.int .u32 (a : Int), .int .u32 ((0 : Nat) : Int)] w fun e w' => e = .panicked [{ v := trapV, recovered := false }] ∧ w = w' := by
  have HC := Lib.hid (fun W => check_false W)
  go_enter Tryd.func79, Tryd.ntmps79
  go_wp2_with fail
  refine (HC.out _).mono ?_
  rintro e w1 ⟨rfl, rfl⟩
  go_wp2_with fail
  exact ⟨rfl, rfl, rfl⟩
theorem xor_nat (a b : Nat) (ha : a < 4294967296) (hb : b < 4294967296) : bits .xor .u32 (a : Int) (b : Int) = ((a ^^^ b : Nat) : Int) := by
  have h : bits .xor .u32 (a : Int) (b : Int) = IntKind.u32.wrap ((BitVec.ofInt 32 (a : Int) ^^^ BitVec.ofInt 32 (b : Int)).toNat : Int) := rfl
  rw [h, BitVec.ofInt_natCast, BitVec.ofInt_natCast, BitVec.toNat_xor, BitVec.toNat_ofNat, BitVec.toNat_ofNat, Nat.mod_eq_of_lt ha, Nat.mod_eq_of_lt hb, IntKind.wrap_u32]
  have : a ^^^ b < 2 ^ 32 := Nat.xor_lt_two_pow ha hb
  omega
theorem bin_xor (a b : Nat) (w : World) (ha : a < 4294967296) (hb : b < 4294967296) : Calls Tryd.prog 80 #[.int .u32 (a : Int), .int .u32 (b : Int)] w fun e w' => e = .returned (.int .u32 ((a ^^^ b : Nat) : Int)) ∧ w = w' := by
  have hx := xor_nat a b ha hb
  go_enter Tryd.func80, Tryd.ntmps80
  go_wp2
  go_ret
  exact ⟨rfl, rfl⟩
theorem bin_lss (a b : Nat) (w : World) (ha : a < 4294967296) (hb : b < 4294967296) : Calls Tryd.prog 81 #[.int .u32 (a : Int), .int .u32 (b : Int)] w fun e w' => e = .returned (.int .u32 ((if a < b then 1 else 0 : Nat) : Int)) ∧ w = w' := by
  by_cases h : a < b
  · rw [if_pos h]
    go_enter Tryd.func81, Tryd.ntmps81
    go_wp2
    go_ret
    exact ⟨rfl, rfl⟩
  · rw [if_neg h]
    go_enter Tryd.func81, Tryd.ntmps81
    go_wp2
    go_ret
    exact ⟨rfl, rfl⟩
end Go.Proofs.YtimegcnpembhkaaDoor
namespace Go.Proofs.YtimegcnpembhkaaDoor
open Go.RowKit
open Go.Lib hiding intOf
set_option linter.unusedVariables false

set_option maxRecDepth 100000 in
theorem exec_stop (B b bm bb : Nat) (M : MS) (steps : Nat) (dv cv iv ov : Value) (w : World) (h : LibM w B b bm bb M steps false dv cv iv ov) :
    Calls Tryd.prog 83 #[.pointer (some ⟨b, 0, none⟩), .int .u32 36] w fun e w' => e = .returned (.tuple #[]) ∧ LibM w' B b bm bb M steps true dv cv iv ov ∧ Below B w w' := by
  obtain ⟨⟨c0, c1, c2, c3, c4, c5, c6, c7, c8, c9⟩, hfz, hlt⟩ := ten h.1
  have f8 := hfz 8
  have H := Lib.hid h
  clear h hfz
  go_enter Tryd.func83, Tryd.ntmps83
  go_wp2_with fail
  go_end0
  exact ⟨rfl, H.out.cell 8 _ rfl H.out.2.2.1, (Below.refl B w).setCell H.out.2.1 _⟩
set_option maxRecDepth 100000 in
set_option maxHeartbeats 3200000 in
theorem exec_ret (B b bm bb : Nat) (M : MS) (steps : Nat) (dv cv iv ov : Value) (w : World) (h : LibM w B b bm bb M steps false dv cv iv ov) (hc6 : M.calls.length ≤ 64) :
    Calls Tryd.prog 83 #[.pointer (some ⟨b, 0, none⟩), .int .u32 59] w (XPost B b bm bb M steps (stepS M 59) w) := by
  have hs : stepS M 59 = (match M.calls.getLast? with | none => none | some p => some { M with pc := p, calls := M.calls.dropLast }) := rfl
  rw [hs]
  obtain ⟨⟨c0, c1, c2, c3, c4, c5, c6, c7, c8, c9⟩, hfz, hlt⟩ := ten h.1
  have f1 := hfz 1
  have f3 := hfz 3
  rcases list_end M.calls with h0 | ⟨l, t, h0⟩
  · rw [h0]
    obtain ⟨A, cd, rfl, hl⟩ := Lst.of_own h.2.2.1.calls
    rw [h0] at c3
    simp only [List.length_nil] at c3
    have HC := Lib.hid (fun W => check_false W)
    have H := Lib.hid h
    clear h hs h0 hl hfz
    go_enter Tryd.func83, Tryd.ntmps83
    go_wp2_with fail
    refine (HC.out _).mono ?_
    rintro e w1 ⟨rfl, rfl⟩
    go_wp2_with fail
    exact ⟨rfl, rfl, M, dv, _, iv, ov, H.out, rfl, Below.refl B w⟩
  · obtain ⟨g, cap, rfl, k1, k2, k3, k4, k5, k6, k7⟩ := h.2.2.1.calls_pop h0
    have hr : (match M.calls.getLast? with | none => none | some p => some { M with pc := p, calls := M.calls.dropLast }) = some { M with pc := t, calls := l } := by rw [h0]; simp
    rw [hr]
    unfold maxLen at k2
    have hl6 : l.length ≤ 64 := by rw [h0, List.length_append] at hc6; omega
    have hgb : g ≠ b := fun e => own_type h.2.2.1.calls (blk_not h.1 (by decide)) (by rw [e]; rfl)
    obtain ⟨m, hm⟩ : ∃ m, m = l.length := ⟨_, rfl⟩
    have H := Lib.hid h
    have HK := Lib.hid k7
    have HCT := Lib.hid (fun W => check_true W)
    rw [← hm] at c3 H HK k1 k3 k4 hl6
    have hmt : decide ((0 : Int) < (m : Int) + 1) = true := decide_eq_true (by omega)
    have k3' : (w.setCell ⟨b, 1, none⟩ (.int .u32 (t : Int))).cell? ⟨g, m, none⟩ = some (.int .u32 (t : Int)) := by
      have := k3
      unfold World.cell? at this ⊢
      rw [Below.heap_setCell _ _ _ _ hgb]
      exact this
    clear h hs hr h0 hfz k7 hm
    go_enter Tryd.func83, Tryd.ntmps83
    go_wp2_with fail
    refine (HCT.out _).mono ?_
    rintro e w1 ⟨rfl, rfl⟩
    go_wp2_with fail
    go_end0
    have H1 : LibM (w.setCell ⟨b, 1, none⟩ (.int .u32 (t : Int))) B b bm bb { M with pc := t } steps false dv (.slice (some ⟨g, 0, none⟩) (m + 1) cap) iv ov := H.out.cell 1 _ rfl (H.out.2.2.1.same rfl rfl rfl rfl rfl)
    have HK1 : Parts (w.setCell ⟨b, 1, none⟩ (.int .u32 (t : Int))) B bm { M with pc := t, calls := l } dv (.slice (some ⟨g, 0, none⟩) m cap) iv ov := (HK.out.keep H.out.2.1 (blk_not H.out.1 (by decide)) (blk_not H.out.1 (by decide)) (blk_not H.out.1 (by decide)) (Keep.set 1 _)).same rfl rfl rfl rfl rfl
    exact ⟨rfl, dv, _, iv, ov, H1.cell (M' := { M with pc := t, calls := l }) 3 _ rfl HK1, ((Below.refl B w).setCell H.out.2.1 _).setCell H.out.2.1 _⟩
set_option maxRecDepth 100000 in
set_option maxHeartbeats 3200000 in
theorem exec_other (B b bm bb : Nat) (M : MS) (steps : Nat) (dv cv iv ov : Value) (w : World) (h : LibM w B b bm bb M steps false dv cv iv ov) (c : Nat) (hc : c < 4294967296)
    (h1 : digN c = false) (h2 : ¬ (c = 32 ∨ c = 10)) (h3 : isBin c = false) (h4 : c ≠ 64) (h5 : c ≠ 33) (h6 : c ≠ 63) (h7 : c ≠ 58) (h8 : c ≠ 59) (h9 : c ≠ 44) (h10 : c ≠ 46) (h11 : c ≠ 36) :
    Calls Tryd.prog 83 #[.pointer (some ⟨b, 0, none⟩), .int .u32 (c : Int)] w (XPost B b bm bb M steps none w) := by
  obtain ⟨⟨c0, c1, c2, c3, c4, c5, c6, c7, c8, c9⟩, hfz, hlt⟩ := ten h.1
  have hne : ∀ k : Nat, c ≠ k → ((c : Int) == (k : Int)) = false := fun k hk => by rw [beq_eq_false_iff_ne]; omega
  unfold digN at h1
  rw [Bool.and_eq_false_iff, decide_eq_false_iff_not, decide_eq_false_iff_not] at h1
  unfold isBin at h3
  have hb : ∀ k ∈ ([43, 45, 42, 47, 37, 94, 60] : List Nat), c ≠ k := fun k hk e => by
    rw [e] at h3
    have : ([43, 45, 42, 47, 37, 94, 60] : List Nat).contains k = true := List.contains_iff_mem.2 hk
    rw [this] at h3; cases h3
  have e48 : ((c : Int) == 48) = false := hne 48 (by omega)
  have e49 : ((c : Int) == 49) = false := hne 49 (by omega)
  have e50 : ((c : Int) == 50) = false := hne 50 (by omega)
  have e51 : ((c : Int) == 51) = false := hne 51 (by omega)
  have e52 : ((c : Int) == 52) = false := hne 52 (by omega)
  have e53 : ((c : Int) == 53) = false := hne 53 (by omega)
  have e54 : ((c : Int) == 54) = false := hne 54 (by omega)
  have e55 : ((c : Int) == 55) = false := hne 55 (by omega)
  have e56 : ((c : Int) == 56) = false := hne 56 (by omega)
  have e57 : ((c : Int) == 57) = false := hne 57 (by omega)
  have e32 : ((c : Int) == 32) = false := hne 32 (by omega)
  have e10 : ((c : Int) == 10) = false := hne 10 (by omega)
  have e64 : ((c : Int) == 64) = false := hne 64 h4
  have e33 : ((c : Int) == 33) = false := hne 33 h5
  have e63 : ((c : Int) == 63) = false := hne 63 h6
  have e58 : ((c : Int) == 58) = false := hne 58 h7
  have e59 : ((c : Int) == 59) = false := hne 59 h8
  have e44 : ((c : Int) == 44) = false := hne 44 h9
  have e46 : ((c : Int) == 46) = false := hne 46 h10
  have e36 : ((c : Int) == 36) = false := hne 36 h11
  have b43 : (43 == (c : Int)) = false := by rw [beq_eq_false_iff_ne]; have := hb 43 (by decide); omega
  have b45 : (45 == (c : Int)) = false := by rw [beq_eq_false_iff_ne]; have := hb 45 (by decide); omega
  have b42 : (42 == (c : Int)) = false := by rw [beq_eq_false_iff_ne]; have := hb 42 (by decide); omega
  have b47 : (47 == (c : Int)) = false := by rw [beq_eq_false_iff_ne]; have := hb 47 (by decide); omega
  have b37 : (37 == (c : Int)) = false := by rw [beq_eq_false_iff_ne]; have := hb 37 (by decide); omega
  have b94 : (94 == (c : Int)) = false := by rw [beq_eq_false_iff_ne]; have := hb 94 (by decide); omega
  have b60 : (60 == (c : Int)) = false := by rw [beq_eq_false_iff_ne]; have := hb 60 (by decide); omega
  have d43 : ((c : Int) == 43) = false := hne 43 (hb 43 (by decide))
  have d45 : ((c : Int) == 45) = false := hne 45 (hb 45 (by decide))
  have d42 : ((c : Int) == 42) = false := hne 42 (hb 42 (by decide))
  have d47 : ((c : Int) == 47) = false := hne 47 (hb 47 (by decide))
  have d37 : ((c : Int) == 37) = false := hne 37 (hb 37 (by decide))
  have d94 : ((c : Int) == 94) = false := hne 94 (hb 94 (by decide))
  have d60 : ((c : Int) == 60) = false := hne 60 (hb 60 (by decide))
  have hlk := lookup_not w bb (c : Int) h.2.2.2 (by simp [binEs, Instr.findNow, Instr.sameNow, d43, d45, d42, d47, d37, d94, d60])
  have HC := Lib.hid (fun W => check_false W)
  have H := Lib.hid h
  clear h hfz h1 h2 h3 h4 h5 h6 h7 h8 h9 h10 h11 hne hb
  go_enter Tryd.func83, Tryd.ntmps83
  go_wp2_with fail
  refine (HC.out _).mono ?_
  rintro e w1 ⟨rfl, rfl⟩
  go_wp2_with fail
  exact ⟨rfl, rfl, M, dv, cv, iv, ov, H.out, rfl, Below.refl B w⟩
end Go.Proofs.YtimegcnpembhkaaDoor
namespace Go.Proofs.YtimegcnpembhkaaDoor
open Go.RowKit
open Go.Lib hiding intOf
set_option linter.unusedVariables false
attribute [local simp] Slots Slot look Is Oper.looksAt Op.operands Call.operands

set_option maxRecDepth 100000 in
set_option maxHeartbeats 3200000 in
theorem exec_store (B b bm bb : Nat) (M : MS) (steps : Nat) (dv cv iv ov : Value) (w : World) (h : LibM w B b bm bb M steps false dv cv iv ov) (hd : M.data.length ≤ 256) :
    Calls Tryd.prog 83 #[.pointer (some ⟨b, 0, none⟩), .int .u32 33] w (XPost B b bm bb M steps (stepS M 33) w) := by
  have hs : stepS M 33 = (addrS M).bind fun (a, m1) => (popS m1).bind fun (v, m2) => some { m2 with mem := setM m2.mem a v } := rfl
  rw [hs]
  rcases list_end M.data with h0 | ⟨l, a, h0⟩
  · have HA := Lib.hid (addr_none B b bm bb M steps false dv cv iv ov w h h0)
    have hr : ((addrS M).bind fun (a, m1) => (popS m1).bind fun (v, m2) => some { m2 with mem := setM m2.mem a v }) = none := by unfold addrS; rw [popS_nil h0]; rfl
    rw [hr]
    have H := Lib.hid h
    clear h hs hr h0
    go_enter Tryd.func83, Tryd.ntmps83
    go_wp2_with fail
    refine HA.out.mono ?_
    rintro e w1 ⟨rfl, rfl⟩
    go_wp2_with fail
    exact ⟨rfl, rfl, M, dv, cv, iv, ov, H.out, rfl, Below.refl B w⟩
  rw [h0, List.length_append] at hd
  simp only [List.length_singleton] at hd
  have hp : addrS M = if a < 262144 then some (a, { M with data := l }) else none := by unfold addrS; rw [popS_snoc h0]
  rw [hp]
  by_cases ha : a < 262144
  rotate_left
  · rw [if_neg ha]
    have HA := Lib.hid (addr_far B b bm bb M steps false dv cv iv ov l a w h h0 (by omega) (by omega))
    clear h hs h0 hp
    go_enter Tryd.func83, Tryd.ntmps83
    go_wp2_with fail
    refine HA.out.mono ?_
    rintro e w1 ⟨dv1, rfl, h1, hb1⟩
    have H1 := Lib.hid h1
    clear h1
    go_wp2_with fail
    exact ⟨rfl, rfl, _, dv1, cv, iv, ov, H1.out, rfl, hb1⟩
  rw [if_pos ha]
  have HA := Lib.hid (addr_any B b bm bb M steps false dv cv iv ov l a w h h0 (by omega) ha)
  have haI : (a : Int) < 262144 := by omega
  have haJ : (0 : Int) ≤ (a : Int) := by omega
  simp only [Option.bind_some]
  rcases list_end l with h1 | ⟨l2, v, h1⟩
  · subst h1
    rw [popS_nil (m := { M with data := [] }) rfl]
    have HB := Lib.hid (fun W dv1 (hW : LibM W B b bm bb { M with data := [] } steps false dv1 cv iv ov) => pop_none B b bm bb { M with data := [] } steps false dv1 cv iv ov W hW rfl)
    clear h hs h0 hp
    go_enter Tryd.func83, Tryd.ntmps83
    go_wp2_with fail
    refine HA.out.mono ?_
    rintro e w1 ⟨dv1, rfl, h1, hb1⟩
    obtain ⟨⟨c0, c1, c2, c3, c4, c5, c6, c7, c8, c9⟩, hfz, hlt⟩ := ten h1.1
    have H1 := Lib.hid h1.drew
    clear h1 hfz
    go_wp2_with fail
    go_region_with (go_at_call 108; refine (HB.out _ _ H1.out).mono ?_; rintro e w2 ⟨rfl, rfl⟩; refine (fun (_ : wpAny Tryd.prog .any #[] (fun _ _ _ => True) 0 #[] { tmps := #[], defers := [] } w) => ⟨rfl, rfl, _, dv1, cv, iv, ov, H1.out, rfl, hb1.drew⟩) ?_)
    all_goals trivial
  · subst h1
    rw [popS_snoc (m := { M with data := l2 ++ [v] }) rfl]
    simp only [Option.bind_some]
    rw [List.length_append] at hd
    simp only [List.length_singleton] at hd
    have HB := Lib.hid (fun W dv1 (hW : LibM W B b bm bb { M with data := l2 ++ [v] } steps false dv1 cv iv ov) => pop_any B b bm bb { M with data := l2 ++ [v] } steps false dv1 cv iv ov l2 v W hW rfl (by omega))
    clear h hs h0 hp
    go_enter Tryd.func83, Tryd.ntmps83
    go_wp2_with fail
    refine HA.out.mono ?_
    rintro e w1 ⟨dv1, rfl, h1, hb1⟩
    obtain ⟨⟨c0, c1, c2, c3, c4, c5, c6, c7, c8, c9⟩, hfz, hlt⟩ := ten h1.1
    have H1 := Lib.hid h1.drew
    clear h1 hfz
    go_wp2_with fail
    go_region_with (go_at_call 108; refine (HB.out _ _ H1.out).mono ?_; rintro e w2 ⟨dv2, rfl, h2, hb2⟩; have hmc := (h2.2.2.1.mem.cell ha).1; have hmf := (h2.2.2.1.mem.cell ha).2; have hc1 := (ten h2.1).1.1)
    all_goals (go_wp2; go_end0; exact ⟨rfl, dv2, cv, iv, ov, h2.mem_set a v, (hb1.drew.trans hb2).setCell h2.2.2.1.hbm _⟩)

theorem call_push {w1 w2 : World} {B b bm bb : Nat} {M : MS} {steps : Nat} {st : Bool} {dv cv cv' iv ov : Value} {v : Nat} (h : LibM w1 B b bm bb M steps st dv cv iv ov) (o : Obj) (hgr : (w1.alloc o).drew.grownBy w2 cv.ownBlock) (hBw : B ≤ w1.heap.size)
    (hown : w2.ownsRow B 47 1 cv' (M.calls.length + 1) (u32V M.calls ++ [.int .u32 (v : Int)])) (hat : cv'.ownBlock = cv.ownBlock ∨ cv'.ownBlock = some (w1.heap.size + 1))
    (hb2 : Blk w2 b 93 [.slice (some ⟨bm, 0, none⟩) 262144 262144, .int .u32 (M.pc : Int), dv, cv, iv, ov, .bool M.digit, .int .i64 (steps : Int), .bool st, .map (some bb)]) :
    LibM (w2.setCell ⟨b, 3, none⟩ cv') B b bm bb { M with calls := M.calls ++ [v] } steps st dv cv' iv ov ∧ Below B w1 (w2.setCell ⟨b, 3, none⟩ cv') := by
  have hg : (w1.alloc o).grownBy w2 cv.ownBlock := ⟨hgr.os, hgr.tape, hgr.output, hgr.size, hgr.block⟩
  have hp2 := h.2.2.1.calls_app (v := v) o hg hBw hown hat
  have hx2 : Below B w1 w2 := ((Below.refl B w1).alloc hBw _).grown hg (by simp; omega) (fun k hk => (own_lt h.2.2.1.calls hk).1)
  refine ⟨⟨?_, h.2.1, hp2.keep h.2.1 (blk_not hb2 (by decide)) (blk_not hb2 (by decide)) (blk_not hb2 (by decide)) (Keep.set 3 _), map_set (map_app h.2.2.2 h.2.2.1.calls o hg) _ _⟩, hx2.setCell h.2.1 _⟩
  exact blk_set hb2 3 cv'
set_option maxRecDepth 100000 in
set_option maxHeartbeats 3200000 in
theorem exec_call (B b bm bb : Nat) (M : MS) (steps : Nat) (dv cv iv ov : Value) (w : World) (h : LibM w B b bm bb M steps false dv cv iv ov) (hd : M.data.length ≤ 256) (hc64 : M.calls.length ≤ 64) (hBw : B ≤ w.heap.size) :
    Calls Tryd.prog 83 #[.pointer (some ⟨b, 0, none⟩), .int .u32 58] w (XPost B b bm bb M steps (stepS M 58) w) := by
  have hs : stepS M 58 = (popS M).bind fun (t, m1) => if m1.calls.length < 64 then some { m1 with calls := m1.calls ++ [m1.pc], pc := t } else none := rfl
  rw [hs]
  rcases list_end M.data with h0 | ⟨l, t, h0⟩
  · have HA := Lib.hid (pop_none B b bm bb M steps false dv cv iv ov w h h0)
    rw [popS_nil h0]
    have H := Lib.hid h
    clear h hs h0
    go_enter Tryd.func83, Tryd.ntmps83
    go_wp2_with fail
    refine HA.out.mono ?_
    rintro e w1 ⟨rfl, rfl⟩
    go_wp2_with fail
    exact ⟨rfl, rfl, M, dv, cv, iv, ov, H.out, rfl, Below.refl B w⟩
  rw [h0, List.length_append] at hd
  simp only [List.length_singleton] at hd
  have HA := Lib.hid (pop_any B b bm bb M steps false dv cv iv ov l t w h h0 (by omega))
  rw [popS_snoc h0]
  simp only [Option.bind_some]
  obtain ⟨A, cc, rfl, hl⟩ := Lst.of_own h.2.2.1.calls
  have hrm := hl.room
  have hmx := hl.max
  unfold maxLen at hmx
  obtain ⟨m, hm⟩ : ∃ m, m = M.calls.length := ⟨_, rfl⟩
  have HM := Lib.hid hm
  rw [← hm] at hrm hc64 HA ⊢
  clear hl
  by_cases h64 : m < 64
  rotate_left
  · rw [if_neg h64]
    have HC := Lib.hid (fun W => check_false W)
    have hdt : decide ((m : Int) < 64) = false := decide_eq_false (by omega)
    clear h hs h0 hm
    go_enter Tryd.func83, Tryd.ntmps83
    go_wp2_with fail
    refine HA.out.mono ?_
    rintro e w1 ⟨dv1, rfl, h1, hb1⟩
    obtain ⟨⟨c0, c1, c2, c3, c4, c5, c6, c7, c8, c9⟩, hfz, hlt⟩ := ten h1.1
    have H1 := Lib.hid h1
    clear h1 hfz
    go_wp2_with fail
    refine (HC.out _).mono ?_
    rintro e w2 ⟨rfl, rfl⟩
    go_wp2_with fail
    exact ⟨rfl, rfl, _, dv1, _, iv, ov, H1.out, rfl, hb1⟩
  · rw [if_pos h64]
    have HC := Lib.hid (fun W => check_true W)
    have hdt : decide ((m : Int) < 64) = true := decide_eq_true (by omega)
    obtain ⟨i0, hi, hz0, hz1, hz2⟩ := info_parts u32InfoM
    clear h hs h0 hm
    go_enter Tryd.func83, Tryd.ntmps83
    go_wp2_with fail
    refine HA.out.mono ?_
    rintro e w1 ⟨dv1, rfl, h1, hb1⟩
    obtain ⟨⟨c0, c1, c2, c3, c4, c5, c6, c7, c8, c9⟩, hfz, hlt⟩ := ten h1.1
    have H1 := Lib.hid h1
    clear h1 hfz
    go_wp2_with fail
    refine (HC.out _).mono ?_
    rintro e w2 ⟨rfl, rfl⟩
    go_wp2_with fail
    have HOC : Hid (w1.ownsRow B 47 1 (.slice A m cc) m (u32V M.calls)) := by
      have := H1.out.2.2.1.calls
      rw [← HM.out] at this
      exact this
    have hB1 : B ≤ w1.heap.size := Nat.le_trans hBw hb1.size
    go_region_law ((refine step_append_lies _ (by rfl) _ _ _ (by rfl) B 47 i0 _ 1 4 Tryd.underlying88 hi hz0 hz1 hz2 rfl (by omega) (.slice A m cc) m _ (by rfl) ((HOC.out.alloc _).drew) ⟨w1.heap.size, 0, none⟩ 1 1 [.int .u32 (M.pc : Int)] (by rfl) (by rfl) (World.news_of_block (cs := #[.int .u32 (M.pc : Int)]) (t := 47) (fr := (0, 0)) (heap_alloc_new w1 _)) (by simp [Value.oneCell']) (by omega) (by unfold maxLen; omega) (by omega) (by simp; omega) (w1.heap.size + 1) (by simp) ?_; intro gg cap2 w2 hown1 hgrow hat hlt2; have hbk2 : Blk w2 b 93 [.slice (some ⟨bm, 0, none⟩) 262144 262144, .int .u32 (M.pc : Int), dv1, .slice A m cc, iv, ov, .bool M.digit, .int .i64 (steps : Int), .bool false, .map (some bb)] := Blk.grown (w := (w1.alloc (.cells #[.int .u32 (M.pc : Int)] 47)).drew) (H1.out.1.alloc _) ((HOC.out.alloc _).drew) (by decide) hgrow; have d3 := hbk2.cell (i := 3) rfl; have d1 := hbk2.cell (i := 1) rfl; have e3 := blk_frozen hbk2 3))
    all_goals (
      obtain ⟨H2, hb2⟩ := call_push H1.out _ hgrow hB1 (cv' := .slice (some ⟨gg, 0, none⟩) (m + 1) cap2) (v := M.pc) (by rw [← HM.out]; exact hown1) (by rcases hat with hat | hat; exact .inl hat.symm; exact .inr (congrArg some hat)) hbk2
      obtain ⟨⟨g0, g1, g2, g3, g4, g5, g6, g7, g8, g9⟩, hfz, hlt3⟩ := ten H2.1
      have f1 := hfz 1
      have HH := Lib.hid H2
      clear H2 hfz hbk2 hown1 hgrow hat d3 d1 e3
      go_wp2_with fail
      go_end0
      exact ⟨rfl, dv1, _, iv, ov, HH.out.cell 1 _ rfl (HH.out.2.2.1.same rfl rfl rfl rfl rfl), (hb1.trans hb2).setCell HH.out.2.1 _⟩)
end Go.Proofs.YtimegcnpembhkaaDoor
namespace Go.Proofs.YtimegcnpembhkaaDoor
open Go.RowKit
open Go.Lib hiding intOf
set_option linter.unusedVariables false

theorem byteInfoM : (Tryd.prog.info? 5).map (fun i => (i.zero, i.size, i.bytes)) = some (some (.int .u8 0), 1, 1) := by kernel_rfl
theorem Parts.input_tail {w : World} {B bm : Nat} {M : MS} {dv cv iv ov : Value} {x : Nat} {l : List Nat} (h : Parts w B bm M dv cv iv ov) (hi : M.input = x :: l) :
    ∃ q off c, iv = .slice (some ⟨q, off, none⟩) (l.length + 1) c ∧ l.length + 1 ≤ c ∧ c ≤ maxLen ∧ w.cell? ⟨q, off, none⟩ = some (.int .u32 (x : Int)) ∧ q < B ∧ q < w.heap.size ∧
      ∃ off', ((c = 1 ∧ off' = off) ∨ (1 < c ∧ off' = off + 1)) ∧ Parts w B bm { M with input := l } dv cv (.slice (some ⟨q, off', none⟩) l.length (c - 1)) ov := by
  obtain ⟨A, n, c, rfl, hl, hA⟩ := h.inp
  rw [hi] at hl
  have hn : n = l.length + 1 := by rw [hl.len, u32V_len]; rfl
  subst hn
  obtain ⟨q, off, rfl, hc⟩ := hl.at_ (by omega)
  have h0 := hc 0 (by rw [u32V_len]; simp)
  have hroom := hl.room
  have hmax := hl.max
  have hq : q < B := hA _ rfl
  by_cases hc1 : c = 1
  · refine ⟨q, off, c, rfl, hroom, hmax, h0, hq, cell_lt h0, off, .inl ⟨hc1, rfl⟩, h.hbm, h.mem, h.data, h.calls, h.out, ⟨_, _, _, rfl, ⟨(u32V_len l).symm, by omega, by omega, fun h => by omega⟩, fun p e => by rw [← Option.some.inj e]; exact hq⟩, h.dm, h.cm, h.dc, h.res⟩
  · refine ⟨q, off, c, rfl, hroom, hmax, h0, hq, cell_lt h0, off + 1, .inr ⟨by omega, rfl⟩, h.hbm, h.mem, h.data, h.calls, h.out, ⟨_, _, _, rfl, ⟨(u32V_len l).symm, by omega, by omega, fun _ => ⟨q, off + 1, rfl, fun i hi' => ?_⟩⟩, fun p e => by rw [← Option.some.inj e]; exact hq⟩, h.dm, h.cm, h.dc, h.res⟩
    have := hc (i + 1) (by rw [u32V_len] at hi' ⊢; simp; omega)
    rw [show off + 1 + i = off + (i + 1) by omega]
    exact this
set_option maxRecDepth 100000 in
set_option maxHeartbeats 3200000 in
theorem exec_in (B b bm bb : Nat) (M : MS) (steps : Nat) (dv cv iv ov : Value) (w : World) (h : LibM w B b bm bb M steps false dv cv iv ov) (hd : M.data.length ≤ 256) (hBw : B ≤ w.heap.size) :
    Calls Tryd.prog 83 #[.pointer (some ⟨b, 0, none⟩), .int .u32 44] w (XPost B b bm bb M steps (stepS M 44) w) := by
  have hs : stepS M 44 = (match M.input with | [] => pushS 4294967295 M | x :: l => pushS x { M with input := l }) := rfl
  rw [hs]
  obtain ⟨⟨c0, c1, c2, c3, c4, c5, c6, c7, c8, c9⟩, hfz, hlt⟩ := ten h.1
  have f4 := hfz 4
  rcases hi : M.input with _ | ⟨x, l⟩
  · have hin : ∃ A c, iv = .slice A 0 c := by
      obtain ⟨A, n, c, rfl, hl, hA⟩ := h.2.2.1.inp
      rw [hi] at hl
      have : n = 0 := hl.len
      subst this
      exact ⟨A, c, rfl⟩
    obtain ⟨A, c, rfl⟩ := hin
    show Calls _ _ _ _ (XPost B b bm bb M steps (pushS 4294967295 M) w)
    unfold pushS
    by_cases h256 : M.data.length < 256
    · rw [if_pos h256]
      have HP := Lib.hid (push_any B b bm bb M steps false dv cv _ ov 4294967295 w h h256 hBw)
      clear h hs hfz hi
      go_enter Tryd.func83, Tryd.ntmps83
      go_wp2_with fail
      refine HP.out.mono ?_
      rintro e w1 ⟨dv1, rfl, h1, hb1⟩
      have H1 := Lib.hid h1
      clear h1
      go_wp2_with fail
      go_end0
      exact ⟨rfl, dv1, cv, _, ov, H1.out, hb1⟩
    · rw [if_neg h256]
      have HP := Lib.hid (push_full B b bm bb M steps false dv cv _ ov 4294967295 w h (by omega))
      have H := Lib.hid h
      clear h hs hfz hi
      go_enter Tryd.func83, Tryd.ntmps83
      go_wp2_with fail
      refine HP.out.mono ?_
      rintro e w1 ⟨rfl, rfl⟩
      go_wp2_with fail
      exact ⟨rfl, rfl, M, dv, cv, _, ov, H.out, rfl, Below.refl B w⟩
  · obtain ⟨q, off, c, rfl, k1, k2, k3, k4, k5, off', koff, k6⟩ := h.2.2.1.input_tail hi
    unfold maxLen at k2
    obtain ⟨m, hm⟩ : ∃ m, m = l.length := ⟨_, rfl⟩
    rw [← hm] at c4 k1 k6 h
    have hqb : q ≠ b := by have := h.2.1; omega
    have hm0 : decide ((0 : Int) < (m : Int) + 1) = true := decide_eq_true (by omega)
    have H1 : LibM (w.setCell ⟨b, 4, none⟩ (.slice (some ⟨q, off', none⟩) m (c - 1))) B b bm bb { M with input := l } steps false dv cv (.slice (some ⟨q, off', none⟩) m (c - 1)) ov := h.cell (M' := { M with input := l }) 4 _ rfl k6
    have hx1 : Below B w (w.setCell ⟨b, 4, none⟩ (.slice (some ⟨q, off', none⟩) m (c - 1))) := (Below.refl B w).setCell h.2.1 _
    show Calls _ _ _ _ (XPost B b bm bb M steps (pushS x { M with input := l }) w)
    unfold pushS
    by_cases h256 : M.data.length < 256
    · rw [if_pos (show ({ M with input := l } : MS).data.length < 256 from h256)]
      have HP := Lib.hid (push_any B b bm bb { M with input := l } steps false dv cv _ ov x _ H1 h256 (by simpa [World.setCell] using hBw))
      have HX := Lib.hid hx1
      clear h hs hfz hi k6 hm H1 hx1
      rcases koff with ⟨rfl, rfl⟩ | ⟨kc, rfl⟩
      · obtain rfl : m = 0 := by omega
        simp only [Nat.sub_self] at HP HX
        go_enter Tryd.func83, Tryd.ntmps83
        go_wp2_with fail
        refine HP.out.mono ?_
        rintro e w1 ⟨dv1, rfl, h1, hb1⟩
        have H1 := Lib.hid h1
        clear h1
        go_wp2_with fail
        go_end0
        exact ⟨rfl, dv1, cv, _, ov, H1.out, HX.out.trans hb1⟩
      · go_enter Tryd.func83, Tryd.ntmps83
        go_wp2_with fail
        refine HP.out.mono ?_
        rintro e w1 ⟨dv1, rfl, h1, hb1⟩
        have H1 := Lib.hid h1
        clear h1
        go_wp2_with fail
        go_end0
        exact ⟨rfl, dv1, cv, _, ov, H1.out, HX.out.trans hb1⟩
    · rw [if_neg (show ¬ ({ M with input := l } : MS).data.length < 256 from h256)]
      have HP := Lib.hid (push_full B b bm bb { M with input := l } steps false dv cv _ ov x _ H1 (show 256 ≤ M.data.length by omega))
      have HX := Lib.hid hx1
      have HH := Lib.hid H1
      clear h hs hfz hi k6 hm H1 hx1
      rcases koff with ⟨rfl, rfl⟩ | ⟨kc, rfl⟩
      · obtain rfl : m = 0 := by omega
        simp only [Nat.sub_self] at HP HX HH
        go_enter Tryd.func83, Tryd.ntmps83
        go_wp2_with fail
        refine HP.out.mono ?_
        rintro e w1 ⟨rfl, rfl⟩
        go_wp2_with fail
        exact ⟨rfl, rfl, _, dv, cv, _, ov, HH.out, rfl, HX.out⟩
      · go_enter Tryd.func83, Tryd.ntmps83
        go_wp2_with fail
        refine HP.out.mono ?_
        rintro e w1 ⟨rfl, rfl⟩
        go_wp2_with fail
        exact ⟨rfl, rfl, _, dv, cv, _, ov, HH.out, rfl, HX.out⟩
end Go.Proofs.YtimegcnpembhkaaDoor
