/- The machine executes its instructions, second part; execute as one contract. (Layer 17) -/
import Derived.Test.YtimegcnpembhkaaDoorMachJ2
import Derived.Deep.RegionHeld3
namespace Go.Proofs.YtimegcnpembhkaaDoor
open Go.RowKit
open Go.Lib hiding intOf
set_option linter.unusedVariables false

theorem out_push {w1 w2 : World} {B b bm bb : Nat} {M : MS} {steps : Nat} {st : Bool} {dv cv iv ov ov' : Value} {v : UInt8} (h : LibM w1 B b bm bb M steps st dv cv iv ov) (o : Obj) (hg : (w1.alloc o).grownBy w2 ov.ownBlock) (hBw : B ≤ w1.heap.size)
    (hown : w2.ownsRow B 5 1 ov' (M.out.length + 1) (Lib.byteCells M.out ++ [.int .u8 (v.toNat : Int)]))
    (hb2 : Blk w2 b 93 [.slice (some ⟨bm, 0, none⟩) 262144 262144, .int .u32 (M.pc : Int), dv, cv, iv, ov, .bool M.digit, .int .i64 (steps : Int), .bool st, .map (some bb)]) :
    LibM (w2.setCell ⟨b, 5, none⟩ ov') B b bm bb { M with out := M.out ++ [v] } steps st dv cv iv ov' ∧ Below B w1 (w2.setCell ⟨b, 5, none⟩ ov') := by
  have hp2 := h.2.2.1.out_app (v := v) o hg hBw hown
  have hx2 : Below B w1 w2 := ((Below.refl B w1).alloc hBw _).grown hg (by simp; omega) (fun k hk => (own_lt h.2.2.1.out hk).1)
  refine ⟨⟨?_, h.2.1, hp2.keep h.2.1 (blk_not hb2 (by decide)) (blk_not hb2 (by decide)) (blk_not hb2 (by decide)) (Keep.set 5 _), map_set (map_app h.2.2.2 h.2.2.1.out o hg) _ _⟩, hx2.setCell h.2.1 _⟩
  exact blk_set hb2 5 ov'
set_option maxRecDepth 100000 in
set_option maxHeartbeats 6400000 in
theorem exec_out (B b bm bb : Nat) (M : MS) (steps : Nat) (dv cv iv ov : Value) (w : World) (h : LibM w B b bm bb M steps false dv cv iv ov) (hd : M.data.length ≤ 256) (hol : M.out.length ≤ 100000000) (hBw : B ≤ w.heap.size) :
    Calls Tryd.prog 83 #[.pointer (some ⟨b, 0, none⟩), .int .u32 46] w (XPost B b bm bb M steps (stepS M 46) w) := by
  have hs : stepS M 46 = (popS M).bind fun (v, m1) => some { m1 with out := m1.out ++ [UInt8.ofNat v] } := rfl
  rw [hs]
  obtain ⟨⟨c0, c1, c2, c3, c4, c5, c6, c7, c8, c9⟩, hfz, hlt⟩ := ten h.1
  rcases list_end M.data with h0 | ⟨l, v, h0⟩
  · have HA := Lib.hid (pop_none B b bm bb M steps false dv cv iv ov w.drew h.drew h0)
    rw [popS_nil h0]
    have H := Lib.hid h.drew
    clear h hs h0 hfz
    go_enter Tryd.func83, Tryd.ntmps83
    go_wp2_with fail
    go_region_with (go_at_call 108; refine HA.out.mono ?_; rintro e w2 ⟨rfl, rfl⟩; refine (fun (_ : wpAny Tryd.prog .any #[] (fun _ _ _ => True) 0 #[] { tmps := #[], defers := [] } w) => ⟨rfl, rfl, M, dv, cv, iv, ov, H.out, rfl, (Below.refl B w).drew⟩) ?_)
    all_goals trivial
  · rw [h0, List.length_append] at hd
    simp only [List.length_singleton] at hd
    have HA := Lib.hid (pop_any B b bm bb M steps false dv cv iv ov l v w.drew h.drew h0 (by omega))
    rw [popS_snoc h0]
    simp only [Option.bind_some]
    obtain ⟨A, co, rfl, hl⟩ := Lst.of_own h.2.2.1.out
    have hrm := hl.room
    have hmx := hl.max
    unfold maxLen at hmx
    obtain ⟨m, hm⟩ : ∃ m, m = M.out.length := ⟨_, rfl⟩
    have HM := Lib.hid hm
    rw [← hm] at hrm hol c5 HA
    have HV : Hid (((UInt8.ofNat v).toNat : Int) = (v : Int) % 256) := by
      show _ = _
      rw [UInt8.toNat_ofNat']; omega
    obtain ⟨i0, hi, hz0, hz1, hz2⟩ := info_parts byteInfoM
    clear h hs h0 hfz hl hm
    go_enter Tryd.func83, Tryd.ntmps83
    go_wp2_with fail
    refine wp_region_any (by kernel_rfl) ?_
    change wpAny _ _ _ _ _ _ _ (World.drew _)
    refine wpAny_take (i := 0) (v := .pointer (some ⟨b, 0, none⟩)) rfl (by kernel_rfl) (by kernel_rfl) (by kernel_rfl) (fun _ _ _ h => h) (Or.inl ⟨by rfl, ?_⟩) ?_
    · intro w; go_simp
    refine wpAny_take (i := 1) (v := .pointer (some ⟨b, 0, none⟩)) rfl (by kernel_rfl) (by kernel_rfl) (by kernel_rfl) (fun _ _ _ h => h) (Or.inl ⟨by rfl, ?_⟩) ?_
    · intro w; go_simp
    refine wpAny_take (i := 2) (v := .pointer (some ⟨b, 0, none⟩)) rfl (by kernel_rfl) (by kernel_rfl) (by kernel_rfl) (fun _ _ _ h => h) (Or.inl ⟨by rfl, ?_⟩) ?_
    · intro w; go_simp
    refine wpAny_take (i := 3) (v := .pointer (some ⟨b, 5, none⟩)) rfl (by kernel_rfl) (by kernel_rfl) (by kernel_rfl) (fun _ _ _ h => h) (Or.inl ⟨by rfl, ?_⟩) ?_
    · intro w; go_simp
    refine wpAny_take (i := 5) (v := .pointer (some ⟨b, 0, none⟩)) rfl (by kernel_rfl) (by kernel_rfl) (by kernel_rfl) (fun _ _ _ h => h) (Or.inl ⟨by rfl, ?_⟩) ?_
    · intro w; go_simp
    refine wpAny_ready (rs := [4, 6]) (by kernel_rfl) (by simp) ?_
    refine AllReady.cons rfl (fun K hK => ?_) ?_
    · go_simp
      refine hK _ _ ?_
      clear hK K
      refine wpAny_ready (rs := [6]) (by kernel_rfl) (by simp) ?_
      refine AllReady.cons rfl (fun K hK => ?_) ?_
      · go_simp
        go_wp2_with (go_at_call 108; refine HA.out.mono ?_; rintro e w1 ⟨dv1, rfl, h1, hb1⟩)
        have hc5 := (ten h1.1).1.2.2.2.2.2.1
        have hlt1 := (ten h1.1).2.2
        have hsz1 : w.heap.size ≤ w1.heap.size := hb1.size
        have HOW : Hid (w1.ownsRow B 5 1 (.slice A m co) m (Lib.byteCells M.out)) := by have := h1.2.2.1.out; show World.ownsRow _ _ _ _ _ _ _; rw [HM.out] at this ⊢; exact this
        have H1 := Lib.hid h1
        clear h1
        refine wpAny_take (i := 7) (v := .int .u8 ((v : Int) % 256)) rfl (by kernel_rfl) (by kernel_rfl) (by kernel_rfl) (fun _ _ _ h => h) (Or.inl ⟨by rfl, ?_⟩) ?_
        · intro w; go_simp; rfl
        refine wpAny_ready (rs := [8]) (by kernel_rfl) (by simp) ?_
        refine AllReady.cons rfl (fun K hK => ?_) ?_
        · go_simp
          refine hK _ _ ?_
          clear hK K
          refine wpAny_ready (rs := [9]) (by kernel_rfl) (by simp) ?_
          refine AllReady.cons rfl (fun K hK => ?_) ?_
          · refine step_append_lies _ (by rfl) _ _ _ (by rfl) B 5 i0 _ 1 1 Tryd.underlying43 hi hz0 hz1 hz2 rfl (by omega) (.slice A m co) m (Lib.byteCells M.out) (by rfl) (HOW.out.alloc _) ⟨w1.heap.size, 0, none⟩ 1 1 [.int .u8 ((v : Int) % 256)] (by rfl) (by rfl) (World.news_of_block (cs := #[.int .u8 ((v : Int) % 256)]) (t := 5) (fr := (0, 0)) (heap_alloc_new w1 _)) (by simp [Value.oneCell']) (by omega) (by unfold maxLen; omega) (by omega) (by simp; omega) (w1.heap.size + 1) (by simp) ?_
            intro gg cap2 w2 hown1 hgrow hat hlt2
            refine hK _ _ ?_
            clear hK K
            have hbk2 : Blk w2 b 93 [.slice (some ⟨bm, 0, none⟩) 262144 262144, .int .u32 (M.pc : Int), dv1, cv, iv, .slice A m co, .bool M.digit, .int .i64 (steps : Int), .bool false, .map (some bb)] := Blk.grown (w := w1.alloc (.cells #[.int .u8 ((v : Int) % 256)] 5)) (H1.out.1.alloc _) (HOW.out.alloc _) (by decide) hgrow
            have d5 := hbk2.cell (i := 5) rfl
            have e5 := blk_frozen hbk2 5
            refine wpAny_take (i := 10) (v := .pointer (some ⟨b, 0, none⟩)) rfl (by kernel_rfl) (by kernel_rfl) (by kernel_rfl) (fun _ _ _ h => h) (Or.inl ⟨by rfl, ?_⟩) ?_
            · intro w; go_simp
            refine wpAny_take (i := 11) (v := .pointer (some ⟨b, 5, none⟩)) rfl (by kernel_rfl) (by kernel_rfl) (by kernel_rfl) (fun _ _ _ h => h) (Or.inl ⟨by rfl, ?_⟩) ?_
            · intro w; go_simp
            refine wpAny_ready (rs := [12]) (by kernel_rfl) (by simp) ?_
            refine AllReady.cons rfl (fun K hK => ?_) ?_
            · go_simp
              refine hK _ _ ?_
              clear hK K
              refine wpAny_done (by kernel_rfl) ?_ _
              obtain ⟨H2, hb2⟩ := out_push H1.out _ hgrow (by omega) (ov' := .slice (some ⟨gg, 0, none⟩) (m + 1) cap2) (v := UInt8.ofNat v) (by rw [← HM.out, HV.out]; exact hown1) hbk2
              go_wp2_with fail
              go_end0
              exact ⟨rfl, dv1, cv, iv, _, H2, ((Below.refl B w).drew.trans hb1).trans hb2⟩
            exact AllReady.nil
          exact AllReady.nil
        exact AllReady.nil
      exact AllReady.nil
    refine AllReady.cons rfl (fun K hK => ?_) ?_
    · go_simp
      go_wp2_with (go_at_call 108; refine HA.out.mono ?_; rintro e w1 ⟨dv1, rfl, h1, hb1⟩)
      have hc5 := (ten h1.1).1.2.2.2.2.2.1
      have hlt1 := (ten h1.1).2.2
      have hsz1 : w.heap.size ≤ w1.heap.size := hb1.size
      have HOW : Hid (w1.ownsRow B 5 1 (.slice A m co) m (Lib.byteCells M.out)) := by have := h1.2.2.1.out; show World.ownsRow _ _ _ _ _ _ _; rw [HM.out] at this ⊢; exact this
      have H1 := Lib.hid h1
      clear h1
      refine wpAny_take (i := 7) (v := .int .u8 ((v : Int) % 256)) rfl (by kernel_rfl) (by kernel_rfl) (by kernel_rfl) (fun _ _ _ h => h) (Or.inl ⟨by rfl, ?_⟩) ?_
      · intro w; go_simp; rfl
      refine wpAny_ready (rs := [4, 8]) (by kernel_rfl) (by simp) ?_
      refine AllReady.cons rfl (fun K hK => ?_) ?_
      · go_simp
        refine hK _ _ ?_
        clear hK K
        refine wpAny_ready (rs := [8]) (by kernel_rfl) (by simp) ?_
        refine AllReady.cons rfl (fun K hK => ?_) ?_
        · go_simp
          refine hK _ _ ?_
          clear hK K
          refine wpAny_ready (rs := [9]) (by kernel_rfl) (by simp) ?_
          refine AllReady.cons rfl (fun K hK => ?_) ?_
          · refine step_append_lies _ (by rfl) _ _ _ (by rfl) B 5 i0 _ 1 1 Tryd.underlying43 hi hz0 hz1 hz2 rfl (by omega) (.slice A m co) m (Lib.byteCells M.out) (by rfl) (HOW.out.alloc _) ⟨w1.heap.size, 0, none⟩ 1 1 [.int .u8 ((v : Int) % 256)] (by rfl) (by rfl) (World.news_of_block (cs := #[.int .u8 ((v : Int) % 256)]) (t := 5) (fr := (0, 0)) (heap_alloc_new w1 _)) (by simp [Value.oneCell']) (by omega) (by unfold maxLen; omega) (by omega) (by simp; omega) (w1.heap.size + 1) (by simp) ?_
            intro gg cap2 w2 hown1 hgrow hat hlt2
            refine hK _ _ ?_
            clear hK K
            have hbk2 : Blk w2 b 93 [.slice (some ⟨bm, 0, none⟩) 262144 262144, .int .u32 (M.pc : Int), dv1, cv, iv, .slice A m co, .bool M.digit, .int .i64 (steps : Int), .bool false, .map (some bb)] := Blk.grown (w := w1.alloc (.cells #[.int .u8 ((v : Int) % 256)] 5)) (H1.out.1.alloc _) (HOW.out.alloc _) (by decide) hgrow
            have d5 := hbk2.cell (i := 5) rfl
            have e5 := blk_frozen hbk2 5
            refine wpAny_take (i := 10) (v := .pointer (some ⟨b, 0, none⟩)) rfl (by kernel_rfl) (by kernel_rfl) (by kernel_rfl) (fun _ _ _ h => h) (Or.inl ⟨by rfl, ?_⟩) ?_
            · intro w; go_simp
            refine wpAny_take (i := 11) (v := .pointer (some ⟨b, 5, none⟩)) rfl (by kernel_rfl) (by kernel_rfl) (by kernel_rfl) (fun _ _ _ h => h) (Or.inl ⟨by rfl, ?_⟩) ?_
            · intro w; go_simp
            refine wpAny_ready (rs := [12]) (by kernel_rfl) (by simp) ?_
            refine AllReady.cons rfl (fun K hK => ?_) ?_
            · go_simp
              refine hK _ _ ?_
              clear hK K
              refine wpAny_done (by kernel_rfl) ?_ _
              obtain ⟨H2, hb2⟩ := out_push H1.out _ hgrow (by omega) (ov' := .slice (some ⟨gg, 0, none⟩) (m + 1) cap2) (v := UInt8.ofNat v) (by rw [← HM.out, HV.out]; exact hown1) hbk2
              go_wp2_with fail
              go_end0
              exact ⟨rfl, dv1, cv, iv, _, H2, ((Below.refl B w).drew.trans hb1).trans hb2⟩
            exact AllReady.nil
          exact AllReady.nil
        exact AllReady.nil
      refine AllReady.cons rfl (fun K hK => ?_) ?_
      · go_simp
        refine hK _ _ ?_
        clear hK K
        refine wpAny_ready (rs := [4]) (by kernel_rfl) (by simp) ?_
        refine AllReady.cons rfl (fun K hK => ?_) ?_
        · go_simp
          refine hK _ _ ?_
          clear hK K
          refine wpAny_ready (rs := [9]) (by kernel_rfl) (by simp) ?_
          refine AllReady.cons rfl (fun K hK => ?_) ?_
          · refine step_append_lies _ (by rfl) _ _ _ (by rfl) B 5 i0 _ 1 1 Tryd.underlying43 hi hz0 hz1 hz2 rfl (by omega) (.slice A m co) m (Lib.byteCells M.out) (by rfl) (HOW.out.alloc _) ⟨w1.heap.size, 0, none⟩ 1 1 [.int .u8 ((v : Int) % 256)] (by rfl) (by rfl) (World.news_of_block (cs := #[.int .u8 ((v : Int) % 256)]) (t := 5) (fr := (0, 0)) (heap_alloc_new w1 _)) (by simp [Value.oneCell']) (by omega) (by unfold maxLen; omega) (by omega) (by simp; omega) (w1.heap.size + 1) (by simp) ?_
            intro gg cap2 w2 hown1 hgrow hat hlt2
            refine hK _ _ ?_
            clear hK K
            have hbk2 : Blk w2 b 93 [.slice (some ⟨bm, 0, none⟩) 262144 262144, .int .u32 (M.pc : Int), dv1, cv, iv, .slice A m co, .bool M.digit, .int .i64 (steps : Int), .bool false, .map (some bb)] := Blk.grown (w := w1.alloc (.cells #[.int .u8 ((v : Int) % 256)] 5)) (H1.out.1.alloc _) (HOW.out.alloc _) (by decide) hgrow
            have d5 := hbk2.cell (i := 5) rfl
            have e5 := blk_frozen hbk2 5
            refine wpAny_take (i := 10) (v := .pointer (some ⟨b, 0, none⟩)) rfl (by kernel_rfl) (by kernel_rfl) (by kernel_rfl) (fun _ _ _ h => h) (Or.inl ⟨by rfl, ?_⟩) ?_
            · intro w; go_simp
            refine wpAny_take (i := 11) (v := .pointer (some ⟨b, 5, none⟩)) rfl (by kernel_rfl) (by kernel_rfl) (by kernel_rfl) (fun _ _ _ h => h) (Or.inl ⟨by rfl, ?_⟩) ?_
            · intro w; go_simp
            refine wpAny_ready (rs := [12]) (by kernel_rfl) (by simp) ?_
            refine AllReady.cons rfl (fun K hK => ?_) ?_
            · go_simp
              refine hK _ _ ?_
              clear hK K
              refine wpAny_done (by kernel_rfl) ?_ _
              obtain ⟨H2, hb2⟩ := out_push H1.out _ hgrow (by omega) (ov' := .slice (some ⟨gg, 0, none⟩) (m + 1) cap2) (v := UInt8.ofNat v) (by rw [← HM.out, HV.out]; exact hown1) hbk2
              go_wp2_with fail
              go_end0
              exact ⟨rfl, dv1, cv, iv, _, H2, ((Below.refl B w).drew.trans hb1).trans hb2⟩
            exact AllReady.nil
          exact AllReady.nil
        exact AllReady.nil
      exact AllReady.nil
    exact AllReady.nil
end Go.Proofs.YtimegcnpembhkaaDoor
namespace Go.Proofs.YtimegcnpembhkaaDoor
open Go.RowKit
open Go.Lib hiding intOf
set_option linter.unusedVariables false

theorem data_upd {w : World} {B b bm bb g i : Nat} {M M' : MS} {steps : Nat} {st : Bool} {dv cv iv ov v : Value} (h : LibM w B b bm bb M steps st dv cv iv ov) (hp : Parts (w.setCell ⟨g, i, none⟩ v) B bm M' dv cv iv ov) (hgb : b ≠ g) (h1 : M'.pc = M.pc) (h2 : M'.digit = M.digit) :
    LibM (w.setCell ⟨g, i, none⟩ v) B b bm bb M' steps st dv cv iv ov := by
  refine ⟨?_, h.2.1, hp, map_set h.2.2.2 _ _⟩
  show (World.heap _)[b]? = _
  rw [Below.heap_setCell _ _ _ _ hgb, h1, h2]
  exact h.1
set_option maxRecDepth 100000 in
set_option maxHeartbeats 3200000 in
theorem exec_48 (B b bm bb : Nat) (M : MS) (steps : Nat) (dv cv iv ov : Value) (w : World) (h : LibM w B b bm bb M steps false dv cv iv ov) (hd : M.data.length ≤ 256) (hdig : M.digit = true → M.data ≠ []) (hdv : ∀ v ∈ M.data, v < 4294967296) (hBw : B ≤ w.heap.size) :
    Calls Tryd.prog 83 #[.pointer (some ⟨b, 0, none⟩), .int .u32 48] w (XPost B b bm bb M steps (stepS M 48) w) := by
  have hs : stepS M 48 = (if M.digit = true then some { M with data := M.data.dropLast ++ [(M.data.getLast?.getD 0 * 10 + (48 - 48)) % 4294967296] } else pushS 0 M) := by
    unfold stepS
    rw [if_pos (show digN 48 = true from rfl)]
  rw [hs]
  obtain ⟨⟨c0, c1, c2, c3, c4, c5, c6, c7, c8, c9⟩, hfz, hlt⟩ := ten h.1
  cases hg : M.digit with
  | false =>
    rw [if_neg (by decide)]
    rw [hg] at c6
    obtain ⟨A, cd, rfl, hl⟩ := Lst.of_own h.2.2.1.data
    obtain ⟨m, hm⟩ : ∃ m, m = M.data.length := ⟨_, rfl⟩
    rw [← hm] at c2
    unfold pushS
    by_cases h256 : M.data.length < 256
    · rw [if_pos h256]
      have HP := Lib.hid (push_any B b bm bb M steps false _ cv iv ov 0 w h h256 hBw)
      rw [← hm] at hd
      clear h hs hfz hl hm h256 hdig hdv hg
      go_enter Tryd.func83, Tryd.ntmps83
      go_wp2_with fail
      refine HP.out.mono ?_
      rintro e w1 ⟨dv1, rfl, h1, hb1⟩
      have H1 := Lib.hid h1
      clear h1
      go_wp2_with fail
      go_end0
      exact ⟨rfl, dv1, cv, iv, ov, H1.out, hb1⟩
    · rw [if_neg h256]
      have HP := Lib.hid (push_full B b bm bb M steps false _ cv iv ov 0 w h (by omega))
      have H := Lib.hid h
      rw [← hm] at hd
      clear h hs hfz hl hm h256 hdig hdv hg
      go_enter Tryd.func83, Tryd.ntmps83
      go_wp2_with fail
      refine HP.out.mono ?_
      rintro e w1 ⟨rfl, rfl⟩
      go_wp2_with fail
      exact ⟨rfl, rfl, M, _, cv, iv, ov, H.out, rfl, Below.refl B w⟩
  | true =>
    rw [if_pos rfl]
    rcases list_end M.data with h0 | ⟨l, x, h0⟩
    · exact absurd h0 (hdig hg)
    · have hx : x < 4294967296 := hdv x (by rw [h0]; simp)
      have he : M.data.dropLast ++ [(M.data.getLast?.getD 0 * 10 + (48 - 48)) % 4294967296] = l ++ [(x * 10 + (48 - 48)) % 4294967296] := by rw [h0, List.dropLast_concat, List.getLast?_concat]; rfl
      rw [he, show (x * 10 + (48 - 48)) % 4294967296 = (x * 10 + 0) % 4294967296 from rfl]
      obtain ⟨y, hy⟩ : ∃ y, y = (x * 10 + 0) % 4294967296 := ⟨_, rfl⟩
      rw [← hy]
      obtain ⟨g, cap, rfl, k1, k2, k3, k4, k5, k6, -, k8, k9⟩ := h.drew.2.2.1.data_set (y := y) h0
      unfold maxLen at k2
      rw [hg] at c6
      have hgb : b ≠ g := fun e => absurd (k9 _ _ _ (e ▸ (show w.drew.heap[b]? = _ from h.1))) (by decide)
      have hex : ((((x : Int) * 10) % 4294967296 + 48) % 4294967296 - 48) % 4294967296 = (y : Int) := by omega
      have H := Lib.hid (data_upd h.drew (k8.same (M' := { M with data := l ++ [y], digit := true }) rfl rfl rfl rfl rfl) hgb rfl hg.symm)
      obtain ⟨m, hm⟩ : ∃ m, m = l.length := ⟨_, rfl⟩
      rw [← hm] at c2 k1 k3 k4 H
      have hbg := h.2.1
      rw [h0, List.length_append] at hd
      have k3' : w.cell? ⟨g, m, none⟩ = some (.int .u32 (x : Int)) := k3
      have k4' : w.frozen? ⟨g, m, none⟩ = false := k4
      clear h hs hfz k8 k9 he hy h0 hdig hdv hm
      go_enter Tryd.func83, Tryd.ntmps83
      go_wp2_with fail
      go_region
      all_goals (
        go_wp2
        go_end0
        have key : ∀ E : Int, E = (y : Int) → LibM ((w.setCell ⟨g, m, none⟩ (.int .u32 E)).drew) B b bm bb { M with data := l ++ [y], digit := true } steps false (.slice (some ⟨g, 0, none⟩) (m + 1) cap) cv iv ov := by rintro _ rfl; exact H.out
        exact ⟨rfl, _, cv, iv, ov, key _ (by omega), ((Below.refl B w).setCell k5 _).drew⟩)

set_option maxRecDepth 100000 in
set_option maxHeartbeats 3200000 in
theorem exec_49 (B b bm bb : Nat) (M : MS) (steps : Nat) (dv cv iv ov : Value) (w : World) (h : LibM w B b bm bb M steps false dv cv iv ov) (hd : M.data.length ≤ 256) (hdig : M.digit = true → M.data ≠ []) (hdv : ∀ v ∈ M.data, v < 4294967296) (hBw : B ≤ w.heap.size) :
    Calls Tryd.prog 83 #[.pointer (some ⟨b, 0, none⟩), .int .u32 49] w (XPost B b bm bb M steps (stepS M 49) w) := by
  have hs : stepS M 49 = (if M.digit = true then some { M with data := M.data.dropLast ++ [(M.data.getLast?.getD 0 * 10 + (49 - 48)) % 4294967296] } else pushS 1 M) := by
    unfold stepS
    rw [if_pos (show digN 49 = true from rfl)]
  rw [hs]
  obtain ⟨⟨c0, c1, c2, c3, c4, c5, c6, c7, c8, c9⟩, hfz, hlt⟩ := ten h.1
  cases hg : M.digit with
  | false =>
    rw [if_neg (by decide)]
    rw [hg] at c6
    obtain ⟨A, cd, rfl, hl⟩ := Lst.of_own h.2.2.1.data
    obtain ⟨m, hm⟩ : ∃ m, m = M.data.length := ⟨_, rfl⟩
    rw [← hm] at c2
    unfold pushS
    by_cases h256 : M.data.length < 256
    · rw [if_pos h256]
      have HP := Lib.hid (push_any B b bm bb M steps false _ cv iv ov 1 w h h256 hBw)
      rw [← hm] at hd
      clear h hs hfz hl hm h256 hdig hdv hg
      go_enter Tryd.func83, Tryd.ntmps83
      go_wp2_with fail
      refine HP.out.mono ?_
      rintro e w1 ⟨dv1, rfl, h1, hb1⟩
      have H1 := Lib.hid h1
      clear h1
      go_wp2_with fail
      go_end0
      exact ⟨rfl, dv1, cv, iv, ov, H1.out, hb1⟩
    · rw [if_neg h256]
      have HP := Lib.hid (push_full B b bm bb M steps false _ cv iv ov 1 w h (by omega))
      have H := Lib.hid h
      rw [← hm] at hd
      clear h hs hfz hl hm h256 hdig hdv hg
      go_enter Tryd.func83, Tryd.ntmps83
      go_wp2_with fail
      refine HP.out.mono ?_
      rintro e w1 ⟨rfl, rfl⟩
      go_wp2_with fail
      exact ⟨rfl, rfl, M, _, cv, iv, ov, H.out, rfl, Below.refl B w⟩
  | true =>
    rw [if_pos rfl]
    rcases list_end M.data with h0 | ⟨l, x, h0⟩
    · exact absurd h0 (hdig hg)
    · have hx : x < 4294967296 := hdv x (by rw [h0]; simp)
      have he : M.data.dropLast ++ [(M.data.getLast?.getD 0 * 10 + (49 - 48)) % 4294967296] = l ++ [(x * 10 + (49 - 48)) % 4294967296] := by rw [h0, List.dropLast_concat, List.getLast?_concat]; rfl
      rw [he, show (x * 10 + (49 - 48)) % 4294967296 = (x * 10 + 1) % 4294967296 from rfl]
      obtain ⟨y, hy⟩ : ∃ y, y = (x * 10 + 1) % 4294967296 := ⟨_, rfl⟩
      rw [← hy]
      obtain ⟨g, cap, rfl, k1, k2, k3, k4, k5, k6, -, k8, k9⟩ := h.drew.2.2.1.data_set (y := y) h0
      unfold maxLen at k2
      rw [hg] at c6
      have hgb : b ≠ g := fun e => absurd (k9 _ _ _ (e ▸ (show w.drew.heap[b]? = _ from h.1))) (by decide)
      have hex : ((((x : Int) * 10) % 4294967296 + 49) % 4294967296 - 48) % 4294967296 = (y : Int) := by omega
      have H := Lib.hid (data_upd h.drew (k8.same (M' := { M with data := l ++ [y], digit := true }) rfl rfl rfl rfl rfl) hgb rfl hg.symm)
      obtain ⟨m, hm⟩ : ∃ m, m = l.length := ⟨_, rfl⟩
      rw [← hm] at c2 k1 k3 k4 H
      have hbg := h.2.1
      rw [h0, List.length_append] at hd
      have k3' : w.cell? ⟨g, m, none⟩ = some (.int .u32 (x : Int)) := k3
      have k4' : w.frozen? ⟨g, m, none⟩ = false := k4
      clear h hs hfz k8 k9 he hy h0 hdig hdv hm
      go_enter Tryd.func83, Tryd.ntmps83
      go_wp2_with fail
      go_region
      all_goals (
        go_wp2
        go_end0
        have key : ∀ E : Int, E = (y : Int) → LibM ((w.setCell ⟨g, m, none⟩ (.int .u32 E)).drew) B b bm bb { M with data := l ++ [y], digit := true } steps false (.slice (some ⟨g, 0, none⟩) (m + 1) cap) cv iv ov := by rintro _ rfl; exact H.out
        exact ⟨rfl, _, cv, iv, ov, key _ (by omega), ((Below.refl B w).setCell k5 _).drew⟩)

set_option maxRecDepth 100000 in
set_option maxHeartbeats 3200000 in
theorem exec_50 (B b bm bb : Nat) (M : MS) (steps : Nat) (dv cv iv ov : Value) (w : World) (h : LibM w B b bm bb M steps false dv cv iv ov) (hd : M.data.length ≤ 256) (hdig : M.digit = true → M.data ≠ []) (hdv : ∀ v ∈ M.data, v < 4294967296) (hBw : B ≤ w.heap.size) :
    Calls Tryd.prog 83 #[.pointer (some ⟨b, 0, none⟩), .int .u32 50] w (XPost B b bm bb M steps (stepS M 50) w) := by
  have hs : stepS M 50 = (if M.digit = true then some { M with data := M.data.dropLast ++ [(M.data.getLast?.getD 0 * 10 + (50 - 48)) % 4294967296] } else pushS 2 M) := by
    unfold stepS
    rw [if_pos (show digN 50 = true from rfl)]
  rw [hs]
  obtain ⟨⟨c0, c1, c2, c3, c4, c5, c6, c7, c8, c9⟩, hfz, hlt⟩ := ten h.1
  cases hg : M.digit with
  | false =>
    rw [if_neg (by decide)]
    rw [hg] at c6
    obtain ⟨A, cd, rfl, hl⟩ := Lst.of_own h.2.2.1.data
    obtain ⟨m, hm⟩ : ∃ m, m = M.data.length := ⟨_, rfl⟩
    rw [← hm] at c2
    unfold pushS
    by_cases h256 : M.data.length < 256
    · rw [if_pos h256]
      have HP := Lib.hid (push_any B b bm bb M steps false _ cv iv ov 2 w h h256 hBw)
      rw [← hm] at hd
      clear h hs hfz hl hm h256 hdig hdv hg
      go_enter Tryd.func83, Tryd.ntmps83
      go_wp2_with fail
      refine HP.out.mono ?_
      rintro e w1 ⟨dv1, rfl, h1, hb1⟩
      have H1 := Lib.hid h1
      clear h1
      go_wp2_with fail
      go_end0
      exact ⟨rfl, dv1, cv, iv, ov, H1.out, hb1⟩
    · rw [if_neg h256]
      have HP := Lib.hid (push_full B b bm bb M steps false _ cv iv ov 2 w h (by omega))
      have H := Lib.hid h
      rw [← hm] at hd
      clear h hs hfz hl hm h256 hdig hdv hg
      go_enter Tryd.func83, Tryd.ntmps83
      go_wp2_with fail
      refine HP.out.mono ?_
      rintro e w1 ⟨rfl, rfl⟩
      go_wp2_with fail
      exact ⟨rfl, rfl, M, _, cv, iv, ov, H.out, rfl, Below.refl B w⟩
  | true =>
    rw [if_pos rfl]
    rcases list_end M.data with h0 | ⟨l, x, h0⟩
    · exact absurd h0 (hdig hg)
    · have hx : x < 4294967296 := hdv x (by rw [h0]; simp)
      have he : M.data.dropLast ++ [(M.data.getLast?.getD 0 * 10 + (50 - 48)) % 4294967296] = l ++ [(x * 10 + (50 - 48)) % 4294967296] := by rw [h0, List.dropLast_concat, List.getLast?_concat]; rfl
      rw [he, show (x * 10 + (50 - 48)) % 4294967296 = (x * 10 + 2) % 4294967296 from rfl]
      obtain ⟨y, hy⟩ : ∃ y, y = (x * 10 + 2) % 4294967296 := ⟨_, rfl⟩
      rw [← hy]
      obtain ⟨g, cap, rfl, k1, k2, k3, k4, k5, k6, -, k8, k9⟩ := h.drew.2.2.1.data_set (y := y) h0
      unfold maxLen at k2
      rw [hg] at c6
      have hgb : b ≠ g := fun e => absurd (k9 _ _ _ (e ▸ (show w.drew.heap[b]? = _ from h.1))) (by decide)
      have hex : ((((x : Int) * 10) % 4294967296 + 50) % 4294967296 - 48) % 4294967296 = (y : Int) := by omega
      have H := Lib.hid (data_upd h.drew (k8.same (M' := { M with data := l ++ [y], digit := true }) rfl rfl rfl rfl rfl) hgb rfl hg.symm)
      obtain ⟨m, hm⟩ : ∃ m, m = l.length := ⟨_, rfl⟩
      rw [← hm] at c2 k1 k3 k4 H
      have hbg := h.2.1
      rw [h0, List.length_append] at hd
      have k3' : w.cell? ⟨g, m, none⟩ = some (.int .u32 (x : Int)) := k3
      have k4' : w.frozen? ⟨g, m, none⟩ = false := k4
      clear h hs hfz k8 k9 he hy h0 hdig hdv hm
      go_enter Tryd.func83, Tryd.ntmps83
      go_wp2_with fail
      go_region
      all_goals (
        go_wp2
        go_end0
        have key : ∀ E : Int, E = (y : Int) → LibM ((w.setCell ⟨g, m, none⟩ (.int .u32 E)).drew) B b bm bb { M with data := l ++ [y], digit := true } steps false (.slice (some ⟨g, 0, none⟩) (m + 1) cap) cv iv ov := by rintro _ rfl; exact H.out
        exact ⟨rfl, _, cv, iv, ov, key _ (by omega), ((Below.refl B w).setCell k5 _).drew⟩)

set_option maxRecDepth 100000 in
set_option maxHeartbeats 3200000 in
theorem exec_51 (B b bm bb : Nat) (M : MS) (steps : Nat) (dv cv iv ov : Value) (w : World) (h : LibM w B b bm bb M steps false dv cv iv ov) (hd : M.data.length ≤ 256) (hdig : M.digit = true → M.data ≠ []) (hdv : ∀ v ∈ M.data, v < 4294967296) (hBw : B ≤ w.heap.size) :
    Calls Tryd.prog 83 #[.pointer (some ⟨b, 0, none⟩), .int .u32 51] w (XPost B b bm bb M steps (stepS M 51) w) := by
  have hs : stepS M 51 = (if M.digit = true then some { M with data := M.data.dropLast ++ [(M.data.getLast?.getD 0 * 10 + (51 - 48)) % 4294967296] } else pushS 3 M) := by
    unfold stepS
    rw [if_pos (show digN 51 = true from rfl)]
  rw [hs]
  obtain ⟨⟨c0, c1, c2, c3, c4, c5, c6, c7, c8, c9⟩, hfz, hlt⟩ := ten h.1
  cases hg : M.digit with
  | false =>
    rw [if_neg (by decide)]
    rw [hg] at c6
    obtain ⟨A, cd, rfl, hl⟩ := Lst.of_own h.2.2.1.data
    obtain ⟨m, hm⟩ : ∃ m, m = M.data.length := ⟨_, rfl⟩
    rw [← hm] at c2
    unfold pushS
    by_cases h256 : M.data.length < 256
    · rw [if_pos h256]
      have HP := Lib.hid (push_any B b bm bb M steps false _ cv iv ov 3 w h h256 hBw)
      rw [← hm] at hd
      clear h hs hfz hl hm h256 hdig hdv hg
      go_enter Tryd.func83, Tryd.ntmps83
      go_wp2_with fail
      refine HP.out.mono ?_
      rintro e w1 ⟨dv1, rfl, h1, hb1⟩
      have H1 := Lib.hid h1
      clear h1
      go_wp2_with fail
      go_end0
      exact ⟨rfl, dv1, cv, iv, ov, H1.out, hb1⟩
    · rw [if_neg h256]
      have HP := Lib.hid (push_full B b bm bb M steps false _ cv iv ov 3 w h (by omega))
      have H := Lib.hid h
      rw [← hm] at hd
      clear h hs hfz hl hm h256 hdig hdv hg
      go_enter Tryd.func83, Tryd.ntmps83
      go_wp2_with fail
      refine HP.out.mono ?_
      rintro e w1 ⟨rfl, rfl⟩
      go_wp2_with fail
      exact ⟨rfl, rfl, M, _, cv, iv, ov, H.out, rfl, Below.refl B w⟩
  | true =>
    rw [if_pos rfl]
    rcases list_end M.data with h0 | ⟨l, x, h0⟩
    · exact absurd h0 (hdig hg)
    · have hx : x < 4294967296 := hdv x (by rw [h0]; simp)
      have he : M.data.dropLast ++ [(M.data.getLast?.getD 0 * 10 + (51 - 48)) % 4294967296] = l ++ [(x * 10 + (51 - 48)) % 4294967296] := by rw [h0, List.dropLast_concat, List.getLast?_concat]; rfl
      rw [he, show (x * 10 + (51 - 48)) % 4294967296 = (x * 10 + 3) % 4294967296 from rfl]
      obtain ⟨y, hy⟩ : ∃ y, y = (x * 10 + 3) % 4294967296 := ⟨_, rfl⟩
      rw [← hy]
      obtain ⟨g, cap, rfl, k1, k2, k3, k4, k5, k6, -, k8, k9⟩ := h.drew.2.2.1.data_set (y := y) h0
      unfold maxLen at k2
      rw [hg] at c6
      have hgb : b ≠ g := fun e => absurd (k9 _ _ _ (e ▸ (show w.drew.heap[b]? = _ from h.1))) (by decide)
      have hex : ((((x : Int) * 10) % 4294967296 + 51) % 4294967296 - 48) % 4294967296 = (y : Int) := by omega
      have H := Lib.hid (data_upd h.drew (k8.same (M' := { M with data := l ++ [y], digit := true }) rfl rfl rfl rfl rfl) hgb rfl hg.symm)
      obtain ⟨m, hm⟩ : ∃ m, m = l.length := ⟨_, rfl⟩
      rw [← hm] at c2 k1 k3 k4 H
      have hbg := h.2.1
      rw [h0, List.length_append] at hd
      have k3' : w.cell? ⟨g, m, none⟩ = some (.int .u32 (x : Int)) := k3
      have k4' : w.frozen? ⟨g, m, none⟩ = false := k4
      clear h hs hfz k8 k9 he hy h0 hdig hdv hm
      go_enter Tryd.func83, Tryd.ntmps83
      go_wp2_with fail
      go_region
      all_goals (
        go_wp2
        go_end0
        have key : ∀ E : Int, E = (y : Int) → LibM ((w.setCell ⟨g, m, none⟩ (.int .u32 E)).drew) B b bm bb { M with data := l ++ [y], digit := true } steps false (.slice (some ⟨g, 0, none⟩) (m + 1) cap) cv iv ov := by rintro _ rfl; exact H.out
        exact ⟨rfl, _, cv, iv, ov, key _ (by omega), ((Below.refl B w).setCell k5 _).drew⟩)

set_option maxRecDepth 100000 in
set_option maxHeartbeats 3200000 in
theorem exec_52 (B b bm bb : Nat) (M : MS) (steps : Nat) (dv cv iv ov : Value) (w : World) (h : LibM w B b bm bb M steps false dv cv iv ov) (hd : M.data.length ≤ 256) (hdig : M.digit = true → M.data ≠ []) (hdv : ∀ v ∈ M.data, v < 4294967296) (hBw : B ≤ w.heap.size) :
    Calls Tryd.prog 83 #[.pointer (some ⟨b, 0, none⟩), .int .u32 52] w (XPost B b bm bb M steps (stepS M 52) w) := by
  have hs : stepS M 52 = (if M.digit = true then some { M with data := M.data.dropLast ++ [(M.data.getLast?.getD 0 * 10 + (52 - 48)) % 4294967296] } else pushS 4 M) := by
    unfold stepS
    rw [if_pos (show digN 52 = true from rfl)]
  rw [hs]
  obtain ⟨⟨c0, c1, c2, c3, c4, c5, c6, c7, c8, c9⟩, hfz, hlt⟩ := ten h.1
  cases hg : M.digit with
  | false =>
    rw [if_neg (by decide)]
    rw [hg] at c6
    obtain ⟨A, cd, rfl, hl⟩ := Lst.of_own h.2.2.1.data
    obtain ⟨m, hm⟩ : ∃ m, m = M.data.length := ⟨_, rfl⟩
    rw [← hm] at c2
    unfold pushS
    by_cases h256 : M.data.length < 256
    · rw [if_pos h256]
      have HP := Lib.hid (push_any B b bm bb M steps false _ cv iv ov 4 w h h256 hBw)
      rw [← hm] at hd
      clear h hs hfz hl hm h256 hdig hdv hg
      go_enter Tryd.func83, Tryd.ntmps83
      go_wp2_with fail
      refine HP.out.mono ?_
      rintro e w1 ⟨dv1, rfl, h1, hb1⟩
      have H1 := Lib.hid h1
      clear h1
      go_wp2_with fail
      go_end0
      exact ⟨rfl, dv1, cv, iv, ov, H1.out, hb1⟩
    · rw [if_neg h256]
      have HP := Lib.hid (push_full B b bm bb M steps false _ cv iv ov 4 w h (by omega))
      have H := Lib.hid h
      rw [← hm] at hd
      clear h hs hfz hl hm h256 hdig hdv hg
      go_enter Tryd.func83, Tryd.ntmps83
      go_wp2_with fail
      refine HP.out.mono ?_
      rintro e w1 ⟨rfl, rfl⟩
      go_wp2_with fail
      exact ⟨rfl, rfl, M, _, cv, iv, ov, H.out, rfl, Below.refl B w⟩
  | true =>
    rw [if_pos rfl]
    rcases list_end M.data with h0 | ⟨l, x, h0⟩
    · exact absurd h0 (hdig hg)
    · have hx : x < 4294967296 := hdv x (by rw [h0]; simp)
      have he : M.data.dropLast ++ [(M.data.getLast?.getD 0 * 10 + (52 - 48)) % 4294967296] = l ++ [(x * 10 + (52 - 48)) % 4294967296] := by rw [h0, List.dropLast_concat, List.getLast?_concat]; rfl
      rw [he, show (x * 10 + (52 - 48)) % 4294967296 = (x * 10 + 4) % 4294967296 from rfl]
      obtain ⟨y, hy⟩ : ∃ y, y = (x * 10 + 4) % 4294967296 := ⟨_, rfl⟩
      rw [← hy]
      obtain ⟨g, cap, rfl, k1, k2, k3, k4, k5, k6, -, k8, k9⟩ := h.drew.2.2.1.data_set (y := y) h0
      unfold maxLen at k2
      rw [hg] at c6
      have hgb : b ≠ g := fun e => absurd (k9 _ _ _ (e ▸ (show w.drew.heap[b]? = _ from h.1))) (by decide)
      have hex : ((((x : Int) * 10) % 4294967296 + 52) % 4294967296 - 48) % 4294967296 = (y : Int) := by omega
      have H := Lib.hid (data_upd h.drew (k8.same (M' := { M with data := l ++ [y], digit := true }) rfl rfl rfl rfl rfl) hgb rfl hg.symm)
      obtain ⟨m, hm⟩ : ∃ m, m = l.length := ⟨_, rfl⟩
      rw [← hm] at c2 k1 k3 k4 H
      have hbg := h.2.1
      rw [h0, List.length_append] at hd
      have k3' : w.cell? ⟨g, m, none⟩ = some (.int .u32 (x : Int)) := k3
      have k4' : w.frozen? ⟨g, m, none⟩ = false := k4
      clear h hs hfz k8 k9 he hy h0 hdig hdv hm
      go_enter Tryd.func83, Tryd.ntmps83
      go_wp2_with fail
      go_region
      all_goals (
        go_wp2
        go_end0
        have key : ∀ E : Int, E = (y : Int) → LibM ((w.setCell ⟨g, m, none⟩ (.int .u32 E)).drew) B b bm bb { M with data := l ++ [y], digit := true } steps false (.slice (some ⟨g, 0, none⟩) (m + 1) cap) cv iv ov := by rintro _ rfl; exact H.out
        exact ⟨rfl, _, cv, iv, ov, key _ (by omega), ((Below.refl B w).setCell k5 _).drew⟩)

set_option maxRecDepth 100000 in
set_option maxHeartbeats 3200000 in
theorem exec_53 (B b bm bb : Nat) (M : MS) (steps : Nat) (dv cv iv ov : Value) (w : World) (h : LibM w B b bm bb M steps false dv cv iv ov) (hd : M.data.length ≤ 256) (hdig : M.digit = true → M.data ≠ []) (hdv : ∀ v ∈ M.data, v < 4294967296) (hBw : B ≤ w.heap.size) :
    Calls Tryd.prog 83 #[.pointer (some ⟨b, 0, none⟩), .int .u32 53] w (XPost B b bm bb M steps (stepS M 53) w) := by
  have hs : stepS M 53 = (if M.digit = true then some { M with data := M.data.dropLast ++ [(M.data.getLast?.getD 0 * 10 + (53 - 48)) % 4294967296] } else pushS 5 M) := by
    unfold stepS
    rw [if_pos (show digN 53 = true from rfl)]
  rw [hs]
  obtain ⟨⟨c0, c1, c2, c3, c4, c5, c6, c7, c8, c9⟩, hfz, hlt⟩ := ten h.1
  cases hg : M.digit with
  | false =>
    rw [if_neg (by decide)]
    rw [hg] at c6
    obtain ⟨A, cd, rfl, hl⟩ := Lst.of_own h.2.2.1.data
    obtain ⟨m, hm⟩ : ∃ m, m = M.data.length := ⟨_, rfl⟩
    rw [← hm] at c2
    unfold pushS
    by_cases h256 : M.data.length < 256
    · rw [if_pos h256]
      have HP := Lib.hid (push_any B b bm bb M steps false _ cv iv ov 5 w h h256 hBw)
      rw [← hm] at hd
      clear h hs hfz hl hm h256 hdig hdv hg
      go_enter Tryd.func83, Tryd.ntmps83
      go_wp2_with fail
      refine HP.out.mono ?_
      rintro e w1 ⟨dv1, rfl, h1, hb1⟩
      have H1 := Lib.hid h1
      clear h1
      go_wp2_with fail
      go_end0
      exact ⟨rfl, dv1, cv, iv, ov, H1.out, hb1⟩
    · rw [if_neg h256]
      have HP := Lib.hid (push_full B b bm bb M steps false _ cv iv ov 5 w h (by omega))
      have H := Lib.hid h
      rw [← hm] at hd
      clear h hs hfz hl hm h256 hdig hdv hg
      go_enter Tryd.func83, Tryd.ntmps83
      go_wp2_with fail
      refine HP.out.mono ?_
      rintro e w1 ⟨rfl, rfl⟩
      go_wp2_with fail
      exact ⟨rfl, rfl, M, _, cv, iv, ov, H.out, rfl, Below.refl B w⟩
  | true =>
    rw [if_pos rfl]
    rcases list_end M.data with h0 | ⟨l, x, h0⟩
    · exact absurd h0 (hdig hg)
    · have hx : x < 4294967296 := hdv x (by rw [h0]; simp)
      have he : M.data.dropLast ++ [(M.data.getLast?.getD 0 * 10 + (53 - 48)) % 4294967296] = l ++ [(x * 10 + (53 - 48)) % 4294967296] := by rw [h0, List.dropLast_concat, List.getLast?_concat]; rfl
      rw [he, show (x * 10 + (53 - 48)) % 4294967296 = (x * 10 + 5) % 4294967296 from rfl]
      obtain ⟨y, hy⟩ : ∃ y, y = (x * 10 + 5) % 4294967296 := ⟨_, rfl⟩
      rw [← hy]
      obtain ⟨g, cap, rfl, k1, k2, k3, k4, k5, k6, -, k8, k9⟩ := h.drew.2.2.1.data_set (y := y) h0
      unfold maxLen at k2
      rw [hg] at c6
      have hgb : b ≠ g := fun e => absurd (k9 _ _ _ (e ▸ (show w.drew.heap[b]? = _ from h.1))) (by decide)
      have hex : ((((x : Int) * 10) % 4294967296 + 53) % 4294967296 - 48) % 4294967296 = (y : Int) := by omega
      have H := Lib.hid (data_upd h.drew (k8.same (M' := { M with data := l ++ [y], digit := true }) rfl rfl rfl rfl rfl) hgb rfl hg.symm)
      obtain ⟨m, hm⟩ : ∃ m, m = l.length := ⟨_, rfl⟩
      rw [← hm] at c2 k1 k3 k4 H
      have hbg := h.2.1
      rw [h0, List.length_append] at hd
      have k3' : w.cell? ⟨g, m, none⟩ = some (.int .u32 (x : Int)) := k3
      have k4' : w.frozen? ⟨g, m, none⟩ = false := k4
      clear h hs hfz k8 k9 he hy h0 hdig hdv hm
      go_enter Tryd.func83, Tryd.ntmps83
      go_wp2_with fail
      go_region
      all_goals (
        go_wp2
        go_end0
        have key : ∀ E : Int, E = (y : Int) → LibM ((w.setCell ⟨g, m, none⟩ (.int .u32 E)).drew) B b bm bb { M with data := l ++ [y], digit := true } steps false (.slice (some ⟨g, 0, none⟩) (m + 1) cap) cv iv ov := by rintro _ rfl; exact H.out
        exact ⟨rfl, _, cv, iv, ov, key _ (by omega), ((Below.refl B w).setCell k5 _).drew⟩)

set_option maxRecDepth 100000 in
set_option maxHeartbeats 3200000 in
theorem exec_54 (B b bm bb : Nat) (M : MS) (steps : Nat) (dv cv iv ov : Value) (w : World) (h : LibM w B b bm bb M steps false dv cv iv ov) (hd : M.data.length ≤ 256) (hdig : M.digit = true → M.data ≠ []) (hdv : ∀ v ∈ M.data, v < 4294967296) (hBw : B ≤ w.heap.size) :
    Calls Tryd.prog 83 #[.pointer (some ⟨b, 0, none⟩), .int .u32 54] w (XPost B b bm bb M steps (stepS M 54) w) := by
  have hs : stepS M 54 = (if M.digit = true then some { M with data := M.data.dropLast ++ [(M.data.getLast?.getD 0 * 10 + (54 - 48)) % 4294967296] } else pushS 6 M) := by
    unfold stepS
    rw [if_pos (show digN 54 = true from rfl)]
  rw [hs]
  obtain ⟨⟨c0, c1, c2, c3, c4, c5, c6, c7, c8, c9⟩, hfz, hlt⟩ := ten h.1
  cases hg : M.digit with
  | false =>
    rw [if_neg (by decide)]
    rw [hg] at c6
    obtain ⟨A, cd, rfl, hl⟩ := Lst.of_own h.2.2.1.data
    obtain ⟨m, hm⟩ : ∃ m, m = M.data.length := ⟨_, rfl⟩
    rw [← hm] at c2
    unfold pushS
    by_cases h256 : M.data.length < 256
    · rw [if_pos h256]
      have HP := Lib.hid (push_any B b bm bb M steps false _ cv iv ov 6 w h h256 hBw)
      rw [← hm] at hd
      clear h hs hfz hl hm h256 hdig hdv hg
      go_enter Tryd.func83, Tryd.ntmps83
      go_wp2_with fail
      refine HP.out.mono ?_
      rintro e w1 ⟨dv1, rfl, h1, hb1⟩
      have H1 := Lib.hid h1
      clear h1
      go_wp2_with fail
      go_end0
      exact ⟨rfl, dv1, cv, iv, ov, H1.out, hb1⟩
    · rw [if_neg h256]
      have HP := Lib.hid (push_full B b bm bb M steps false _ cv iv ov 6 w h (by omega))
      have H := Lib.hid h
      rw [← hm] at hd
      clear h hs hfz hl hm h256 hdig hdv hg
      go_enter Tryd.func83, Tryd.ntmps83
      go_wp2_with fail
      refine HP.out.mono ?_
      rintro e w1 ⟨rfl, rfl⟩
      go_wp2_with fail
      exact ⟨rfl, rfl, M, _, cv, iv, ov, H.out, rfl, Below.refl B w⟩
  | true =>
    rw [if_pos rfl]
    rcases list_end M.data with h0 | ⟨l, x, h0⟩
    · exact absurd h0 (hdig hg)
    · have hx : x < 4294967296 := hdv x (by rw [h0]; simp)
      have he : M.data.dropLast ++ [(M.data.getLast?.getD 0 * 10 + (54 - 48)) % 4294967296] = l ++ [(x * 10 + (54 - 48)) % 4294967296] := by rw [h0, List.dropLast_concat, List.getLast?_concat]; rfl
      rw [he, show (x * 10 + (54 - 48)) % 4294967296 = (x * 10 + 6) % 4294967296 from rfl]
      obtain ⟨y, hy⟩ : ∃ y, y = (x * 10 + 6) % 4294967296 := ⟨_, rfl⟩
      rw [← hy]
      obtain ⟨g, cap, rfl, k1, k2, k3, k4, k5, k6, -, k8, k9⟩ := h.drew.2.2.1.data_set (y := y) h0
      unfold maxLen at k2
      rw [hg] at c6
      have hgb : b ≠ g := fun e => absurd (k9 _ _ _ (e ▸ (show w.drew.heap[b]? = _ from h.1))) (by decide)
      have hex : ((((x : Int) * 10) % 4294967296 + 54) % 4294967296 - 48) % 4294967296 = (y : Int) := by omega
      have H := Lib.hid (data_upd h.drew (k8.same (M' := { M with data := l ++ [y], digit := true }) rfl rfl rfl rfl rfl) hgb rfl hg.symm)
      obtain ⟨m, hm⟩ : ∃ m, m = l.length := ⟨_, rfl⟩
      rw [← hm] at c2 k1 k3 k4 H
      have hbg := h.2.1
      rw [h0, List.length_append] at hd
      have k3' : w.cell? ⟨g, m, none⟩ = some (.int .u32 (x : Int)) := k3
      have k4' : w.frozen? ⟨g, m, none⟩ = false := k4
      clear h hs hfz k8 k9 he hy h0 hdig hdv hm
      go_enter Tryd.func83, Tryd.ntmps83
      go_wp2_with fail
      go_region
      all_goals (
        go_wp2
        go_end0
        have key : ∀ E : Int, E = (y : Int) → LibM ((w.setCell ⟨g, m, none⟩ (.int .u32 E)).drew) B b bm bb { M with data := l ++ [y], digit := true } steps false (.slice (some ⟨g, 0, none⟩) (m + 1) cap) cv iv ov := by rintro _ rfl; exact H.out
        exact ⟨rfl, _, cv, iv, ov, key _ (by omega), ((Below.refl B w).setCell k5 _).drew⟩)

set_option maxRecDepth 100000 in
set_option maxHeartbeats 3200000 in
theorem exec_55 (B b bm bb : Nat) (M : MS) (steps : Nat) (dv cv iv ov : Value) (w : World) (h : LibM w B b bm bb M steps false dv cv iv ov) (hd : M.data.length ≤ 256) (hdig : M.digit = true → M.data ≠ []) (hdv : ∀ v ∈ M.data, v < 4294967296) (hBw : B ≤ w.heap.size) :
    Calls Tryd.prog 83 #[.pointer (some ⟨b, 0, none⟩), .int .u32 55] w (XPost B b bm bb M steps (stepS M 55) w) := by
  have hs : stepS M 55 = (if M.digit = true then some { M with data := M.data.dropLast ++ [(M.data.getLast?.getD 0 * 10 + (55 - 48)) % 4294967296] } else pushS 7 M) := by
    unfold stepS
    rw [if_pos (show digN 55 = true from rfl)]
  rw [hs]
  obtain ⟨⟨c0, c1, c2, c3, c4, c5, c6, c7, c8, c9⟩, hfz, hlt⟩ := ten h.1
  cases hg : M.digit with
  | false =>
    rw [if_neg (by decide)]
    rw [hg] at c6
    obtain ⟨A, cd, rfl, hl⟩ := Lst.of_own h.2.2.1.data
    obtain ⟨m, hm⟩ : ∃ m, m = M.data.length := ⟨_, rfl⟩
    rw [← hm] at c2
    unfold pushS
    by_cases h256 : M.data.length < 256
    · rw [if_pos h256]
      have HP := Lib.hid (push_any B b bm bb M steps false _ cv iv ov 7 w h h256 hBw)
      rw [← hm] at hd
      clear h hs hfz hl hm h256 hdig hdv hg
      go_enter Tryd.func83, Tryd.ntmps83
      go_wp2_with fail
      refine HP.out.mono ?_
      rintro e w1 ⟨dv1, rfl, h1, hb1⟩
      have H1 := Lib.hid h1
      clear h1
      go_wp2_with fail
      go_end0
      exact ⟨rfl, dv1, cv, iv, ov, H1.out, hb1⟩
    · rw [if_neg h256]
      have HP := Lib.hid (push_full B b bm bb M steps false _ cv iv ov 7 w h (by omega))
      have H := Lib.hid h
      rw [← hm] at hd
      clear h hs hfz hl hm h256 hdig hdv hg
      go_enter Tryd.func83, Tryd.ntmps83
      go_wp2_with fail
      refine HP.out.mono ?_
      rintro e w1 ⟨rfl, rfl⟩
      go_wp2_with fail
      exact ⟨rfl, rfl, M, _, cv, iv, ov, H.out, rfl, Below.refl B w⟩
  | true =>
    rw [if_pos rfl]
    rcases list_end M.data with h0 | ⟨l, x, h0⟩
    · exact absurd h0 (hdig hg)
    · have hx : x < 4294967296 := hdv x (by rw [h0]; simp)
      have he : M.data.dropLast ++ [(M.data.getLast?.getD 0 * 10 + (55 - 48)) % 4294967296] = l ++ [(x * 10 + (55 - 48)) % 4294967296] := by rw [h0, List.dropLast_concat, List.getLast?_concat]; rfl
      rw [he, show (x * 10 + (55 - 48)) % 4294967296 = (x * 10 + 7) % 4294967296 from rfl]
      obtain ⟨y, hy⟩ : ∃ y, y = (x * 10 + 7) % 4294967296 := ⟨_, rfl⟩
      rw [← hy]
      obtain ⟨g, cap, rfl, k1, k2, k3, k4, k5, k6, -, k8, k9⟩ := h.drew.2.2.1.data_set (y := y) h0
      unfold maxLen at k2
      rw [hg] at c6
      have hgb : b ≠ g := fun e => absurd (k9 _ _ _ (e ▸ (show w.drew.heap[b]? = _ from h.1))) (by decide)
      have hex : ((((x : Int) * 10) % 4294967296 + 55) % 4294967296 - 48) % 4294967296 = (y : Int) := by omega
      have H := Lib.hid (data_upd h.drew (k8.same (M' := { M with data := l ++ [y], digit := true }) rfl rfl rfl rfl rfl) hgb rfl hg.symm)
      obtain ⟨m, hm⟩ : ∃ m, m = l.length := ⟨_, rfl⟩
      rw [← hm] at c2 k1 k3 k4 H
      have hbg := h.2.1
      rw [h0, List.length_append] at hd
      have k3' : w.cell? ⟨g, m, none⟩ = some (.int .u32 (x : Int)) := k3
      have k4' : w.frozen? ⟨g, m, none⟩ = false := k4
      clear h hs hfz k8 k9 he hy h0 hdig hdv hm
      go_enter Tryd.func83, Tryd.ntmps83
      go_wp2_with fail
      go_region
      all_goals (
        go_wp2
        go_end0
        have key : ∀ E : Int, E = (y : Int) → LibM ((w.setCell ⟨g, m, none⟩ (.int .u32 E)).drew) B b bm bb { M with data := l ++ [y], digit := true } steps false (.slice (some ⟨g, 0, none⟩) (m + 1) cap) cv iv ov := by rintro _ rfl; exact H.out
        exact ⟨rfl, _, cv, iv, ov, key _ (by omega), ((Below.refl B w).setCell k5 _).drew⟩)

set_option maxRecDepth 100000 in
set_option maxHeartbeats 3200000 in
theorem exec_56 (B b bm bb : Nat) (M : MS) (steps : Nat) (dv cv iv ov : Value) (w : World) (h : LibM w B b bm bb M steps false dv cv iv ov) (hd : M.data.length ≤ 256) (hdig : M.digit = true → M.data ≠ []) (hdv : ∀ v ∈ M.data, v < 4294967296) (hBw : B ≤ w.heap.size) :
    Calls Tryd.prog 83 #[.pointer (some ⟨b, 0, none⟩), .int .u32 56] w (XPost B b bm bb M steps (stepS M 56) w) := by
  have hs : stepS M 56 = (if M.digit = true then some { M with data := M.data.dropLast ++ [(M.data.getLast?.getD 0 * 10 + (56 - 48)) % 4294967296] } else pushS 8 M) := by
    unfold stepS
    rw [if_pos (show digN 56 = true from rfl)]
  rw [hs]
  obtain ⟨⟨c0, c1, c2, c3, c4, c5, c6, c7, c8, c9⟩, hfz, hlt⟩ := ten h.1
  cases hg : M.digit with
  | false =>
    rw [if_neg (by decide)]
    rw [hg] at c6
    obtain ⟨A, cd, rfl, hl⟩ := Lst.of_own h.2.2.1.data
    obtain ⟨m, hm⟩ : ∃ m, m = M.data.length := ⟨_, rfl⟩
    rw [← hm] at c2
    unfold pushS
    by_cases h256 : M.data.length < 256
    · rw [if_pos h256]
      have HP := Lib.hid (push_any B b bm bb M steps false _ cv iv ov 8 w h h256 hBw)
      rw [← hm] at hd
      clear h hs hfz hl hm h256 hdig hdv hg
      go_enter Tryd.func83, Tryd.ntmps83
      go_wp2_with fail
      refine HP.out.mono ?_
      rintro e w1 ⟨dv1, rfl, h1, hb1⟩
      have H1 := Lib.hid h1
      clear h1
      go_wp2_with fail
      go_end0
      exact ⟨rfl, dv1, cv, iv, ov, H1.out, hb1⟩
    · rw [if_neg h256]
      have HP := Lib.hid (push_full B b bm bb M steps false _ cv iv ov 8 w h (by omega))
      have H := Lib.hid h
      rw [← hm] at hd
      clear h hs hfz hl hm h256 hdig hdv hg
      go_enter Tryd.func83, Tryd.ntmps83
      go_wp2_with fail
      refine HP.out.mono ?_
      rintro e w1 ⟨rfl, rfl⟩
      go_wp2_with fail
      exact ⟨rfl, rfl, M, _, cv, iv, ov, H.out, rfl, Below.refl B w⟩
  | true =>
    rw [if_pos rfl]
    rcases list_end M.data with h0 | ⟨l, x, h0⟩
    · exact absurd h0 (hdig hg)
    · have hx : x < 4294967296 := hdv x (by rw [h0]; simp)
      have he : M.data.dropLast ++ [(M.data.getLast?.getD 0 * 10 + (56 - 48)) % 4294967296] = l ++ [(x * 10 + (56 - 48)) % 4294967296] := by rw [h0, List.dropLast_concat, List.getLast?_concat]; rfl
      rw [he, show (x * 10 + (56 - 48)) % 4294967296 = (x * 10 + 8) % 4294967296 from rfl]
      obtain ⟨y, hy⟩ : ∃ y, y = (x * 10 + 8) % 4294967296 := ⟨_, rfl⟩
      rw [← hy]
      obtain ⟨g, cap, rfl, k1, k2, k3, k4, k5, k6, -, k8, k9⟩ := h.drew.2.2.1.data_set (y := y) h0
      unfold maxLen at k2
      rw [hg] at c6
      have hgb : b ≠ g := fun e => absurd (k9 _ _ _ (e ▸ (show w.drew.heap[b]? = _ from h.1))) (by decide)
      have hex : ((((x : Int) * 10) % 4294967296 + 56) % 4294967296 - 48) % 4294967296 = (y : Int) := by omega
      have H := Lib.hid (data_upd h.drew (k8.same (M' := { M with data := l ++ [y], digit := true }) rfl rfl rfl rfl rfl) hgb rfl hg.symm)
      obtain ⟨m, hm⟩ : ∃ m, m = l.length := ⟨_, rfl⟩
      rw [← hm] at c2 k1 k3 k4 H
      have hbg := h.2.1
      rw [h0, List.length_append] at hd
      have k3' : w.cell? ⟨g, m, none⟩ = some (.int .u32 (x : Int)) := k3
      have k4' : w.frozen? ⟨g, m, none⟩ = false := k4
      clear h hs hfz k8 k9 he hy h0 hdig hdv hm
      go_enter Tryd.func83, Tryd.ntmps83
      go_wp2_with fail
      go_region
      all_goals (
        go_wp2
        go_end0
        have key : ∀ E : Int, E = (y : Int) → LibM ((w.setCell ⟨g, m, none⟩ (.int .u32 E)).drew) B b bm bb { M with data := l ++ [y], digit := true } steps false (.slice (some ⟨g, 0, none⟩) (m + 1) cap) cv iv ov := by rintro _ rfl; exact H.out
        exact ⟨rfl, _, cv, iv, ov, key _ (by omega), ((Below.refl B w).setCell k5 _).drew⟩)

set_option maxRecDepth 100000 in
set_option maxHeartbeats 3200000 in
theorem exec_57 (B b bm bb : Nat) (M : MS) (steps : Nat) (dv cv iv ov : Value) (w : World) (h : LibM w B b bm bb M steps false dv cv iv ov) (hd : M.data.length ≤ 256) (hdig : M.digit = true → M.data ≠ []) (hdv : ∀ v ∈ M.data, v < 4294967296) (hBw : B ≤ w.heap.size) :
    Calls Tryd.prog 83 #[.pointer (some ⟨b, 0, none⟩), .int .u32 57] w (XPost B b bm bb M steps (stepS M 57) w) := by
  have hs : stepS M 57 = (if M.digit = true then some { M with data := M.data.dropLast ++ [(M.data.getLast?.getD 0 * 10 + (57 - 48)) % 4294967296] } else pushS 9 M) := by
    unfold stepS
    rw [if_pos (show digN 57 = true from rfl)]
  rw [hs]
  obtain ⟨⟨c0, c1, c2, c3, c4, c5, c6, c7, c8, c9⟩, hfz, hlt⟩ := ten h.1
  cases hg : M.digit with
  | false =>
    rw [if_neg (by decide)]
    rw [hg] at c6
    obtain ⟨A, cd, rfl, hl⟩ := Lst.of_own h.2.2.1.data
    obtain ⟨m, hm⟩ : ∃ m, m = M.data.length := ⟨_, rfl⟩
    rw [← hm] at c2
    unfold pushS
    by_cases h256 : M.data.length < 256
    · rw [if_pos h256]
      have HP := Lib.hid (push_any B b bm bb M steps false _ cv iv ov 9 w h h256 hBw)
      rw [← hm] at hd
      clear h hs hfz hl hm h256 hdig hdv hg
      go_enter Tryd.func83, Tryd.ntmps83
      go_wp2_with fail
      refine HP.out.mono ?_
      rintro e w1 ⟨dv1, rfl, h1, hb1⟩
      have H1 := Lib.hid h1
      clear h1
      go_wp2_with fail
      go_end0
      exact ⟨rfl, dv1, cv, iv, ov, H1.out, hb1⟩
    · rw [if_neg h256]
      have HP := Lib.hid (push_full B b bm bb M steps false _ cv iv ov 9 w h (by omega))
      have H := Lib.hid h
      rw [← hm] at hd
      clear h hs hfz hl hm h256 hdig hdv hg
      go_enter Tryd.func83, Tryd.ntmps83
      go_wp2_with fail
      refine HP.out.mono ?_
      rintro e w1 ⟨rfl, rfl⟩
      go_wp2_with fail
      exact ⟨rfl, rfl, M, _, cv, iv, ov, H.out, rfl, Below.refl B w⟩
  | true =>
    rw [if_pos rfl]
    rcases list_end M.data with h0 | ⟨l, x, h0⟩
    · exact absurd h0 (hdig hg)
    · have hx : x < 4294967296 := hdv x (by rw [h0]; simp)
      have he : M.data.dropLast ++ [(M.data.getLast?.getD 0 * 10 + (57 - 48)) % 4294967296] = l ++ [(x * 10 + (57 - 48)) % 4294967296] := by rw [h0, List.dropLast_concat, List.getLast?_concat]; rfl
      rw [he, show (x * 10 + (57 - 48)) % 4294967296 = (x * 10 + 9) % 4294967296 from rfl]
      obtain ⟨y, hy⟩ : ∃ y, y = (x * 10 + 9) % 4294967296 := ⟨_, rfl⟩
      rw [← hy]
      obtain ⟨g, cap, rfl, k1, k2, k3, k4, k5, k6, -, k8, k9⟩ := h.drew.2.2.1.data_set (y := y) h0
      unfold maxLen at k2
      rw [hg] at c6
      have hgb : b ≠ g := fun e => absurd (k9 _ _ _ (e ▸ (show w.drew.heap[b]? = _ from h.1))) (by decide)
      have hex : ((((x : Int) * 10) % 4294967296 + 57) % 4294967296 - 48) % 4294967296 = (y : Int) := by omega
      have H := Lib.hid (data_upd h.drew (k8.same (M' := { M with data := l ++ [y], digit := true }) rfl rfl rfl rfl rfl) hgb rfl hg.symm)
      obtain ⟨m, hm⟩ : ∃ m, m = l.length := ⟨_, rfl⟩
      rw [← hm] at c2 k1 k3 k4 H
      have hbg := h.2.1
      rw [h0, List.length_append] at hd
      have k3' : w.cell? ⟨g, m, none⟩ = some (.int .u32 (x : Int)) := k3
      have k4' : w.frozen? ⟨g, m, none⟩ = false := k4
      clear h hs hfz k8 k9 he hy h0 hdig hdv hm
      go_enter Tryd.func83, Tryd.ntmps83
      go_wp2_with fail
      go_region
      all_goals (
        go_wp2
        go_end0
        have key : ∀ E : Int, E = (y : Int) → LibM ((w.setCell ⟨g, m, none⟩ (.int .u32 E)).drew) B b bm bb { M with data := l ++ [y], digit := true } steps false (.slice (some ⟨g, 0, none⟩) (m + 1) cap) cv iv ov := by rintro _ rfl; exact H.out
        exact ⟨rfl, _, cv, iv, ov, key _ (by omega), ((Below.refl B w).setCell k5 _).drew⟩)

end Go.Proofs.YtimegcnpembhkaaDoor
namespace Go.Proofs.YtimegcnpembhkaaDoor
open Go.RowKit
open Go.Lib hiding intOf
set_option linter.unusedVariables false

set_option maxRecDepth 100000 in
set_option maxHeartbeats 3200000 in
theorem exec_43 (B b bm bb : Nat) (M : MS) (steps : Nat) (dv cv iv ov : Value) (w : World) (h : LibM w B b bm bb M steps false dv cv iv ov) (hd : M.data.length ≤ 256) (hdv : ∀ v ∈ M.data, v < 4294967296) (hBw : B ≤ w.heap.size) :
    Calls Tryd.prog 83 #[.pointer (some ⟨b, 0, none⟩), .int .u32 43] w (XPost B b bm bb M steps (stepS M 43) w) := by
  have hs : stepS M 43 = (popS M).bind fun (b, m1) => (popS m1).bind fun (a, m2) => (binS 43 a b).bind fun v => pushS v m2 := by
    unfold stepS
    rw [if_neg (show ¬ digN 43 = true by decide), if_neg (show ¬ (43 = 32 ∨ 43 = 10) by decide), if_pos (show isBin 43 = true by decide)]
  rw [hs]
  obtain ⟨⟨c0, c1, c2, c3, c4, c5, c6, c7, c8, c9⟩, hfz, hlt⟩ := ten h.1
  have hlk := lookup_at w bb 43 0 (.func (.func 74) #[] #[]) h.2.2.2 rfl
  have HC := Lib.hid (fun W => check_true W)
  rcases list_end M.data with h0 | ⟨l, y, h0⟩
  · have HA := Lib.hid (pop_none B b bm bb M steps false dv cv iv ov w h h0)
    rw [popS_nil h0]
    have H := Lib.hid h
    clear h hs h0 hfz
    go_enter Tryd.func83, Tryd.ntmps83
    go_wp2_with fail
    refine (HC.out _).mono ?_
    rintro e w0 ⟨rfl, rfl⟩
    go_wp2_with fail
    refine HA.out.mono ?_
    rintro e w1 ⟨rfl, rfl⟩
    go_wp2_with fail
    exact ⟨rfl, rfl, M, dv, cv, iv, ov, H.out, rfl, Below.refl B w⟩
  have hy : y < 4294967296 := hdv y (by rw [h0]; simp)
  rw [h0, List.length_append] at hd
  simp only [List.length_singleton] at hd
  have HA := Lib.hid (pop_any B b bm bb M steps false dv cv iv ov l y w h h0 (by omega))
  rw [popS_snoc h0]
  simp only [Option.bind_some]
  rcases list_end l with h1 | ⟨l2, a, h1⟩
  · subst h1
    rw [popS_nil (m := { M with data := [] }) rfl]
    have HB := Lib.hid (fun W dv1 (hW : LibM W B b bm bb { M with data := [] } steps false dv1 cv iv ov) => pop_none B b bm bb { M with data := [] } steps false dv1 cv iv ov W hW rfl)
    clear h hs h0 hfz hdv
    go_enter Tryd.func83, Tryd.ntmps83
    go_wp2_with fail
    refine (HC.out _).mono ?_
    rintro e w0 ⟨rfl, rfl⟩
    go_wp2_with fail
    refine HA.out.mono ?_
    rintro e w1 ⟨dv1, rfl, h1, hb1⟩
    have H1 := Lib.hid h1
    clear h1
    go_wp2_with fail
    refine (HB.out _ _ H1.out).mono ?_
    rintro e w2 ⟨rfl, rfl⟩
    go_wp2_with fail
    exact ⟨rfl, rfl, _, dv1, cv, iv, ov, H1.out, rfl, hb1⟩
  subst h1
  have ha : a < 4294967296 := hdv a (by rw [h0]; simp)
  rw [popS_snoc (m := { M with data := l2 ++ [a] }) rfl]
  simp only [Option.bind_some]
  rw [List.length_append] at hd
  simp only [List.length_singleton] at hd
  have hbin : binS 43 a y = some ((a + y) % 4294967296) := by unfold binS; simp
  rw [hbin]
  simp only [Option.bind_some]
  obtain ⟨r, hr⟩ : ∃ r : Nat, r = ((a + y) % 4294967296) := ⟨_, rfl⟩
  have HF := Lib.hid (fun W => bin_add a y W ha hy)
  rw [← hr] at HF ⊢
  have hpu : pushS r { M with data := l2 } = some { M with data := l2 ++ [r] } := by unfold pushS; rw [if_pos (show l2.length < 256 by omega)]
  rw [hpu]
  have HB := Lib.hid (fun W dv1 (hW : LibM W B b bm bb { M with data := l2 ++ [a] } steps false dv1 cv iv ov) => pop_any B b bm bb { M with data := l2 ++ [a] } steps false dv1 cv iv ov l2 a W hW rfl (by omega))
  have HU := Lib.hid (fun W dv1 (hW : LibM W B b bm bb { M with data := l2 } steps false dv1 cv iv ov) (hz : B ≤ W.heap.size) => push_any B b bm bb { M with data := l2 } steps false dv1 cv iv ov r W hW (show l2.length < 256 by omega) hz)
  clear h hs h0 hfz hbin hpu hr hdv
  go_enter Tryd.func83, Tryd.ntmps83
  go_wp2_with fail
  refine (HC.out _).mono ?_
  rintro e w0 ⟨rfl, rfl⟩
  go_wp2_with fail
  refine HA.out.mono ?_
  rintro e w1 ⟨dv1, rfl, h1, hb1⟩
  have H1 := Lib.hid h1
  clear h1
  go_wp2_with fail
  refine (HB.out _ _ H1.out).mono ?_
  rintro e w2 ⟨dv2, rfl, h2, hb2⟩
  have H2 := Lib.hid h2
  clear h2
  go_wp2_with fail
  refine (HF.out _).mono ?_
  rintro e w3 ⟨rfl, rfl⟩
  go_wp2_with fail
  refine (HU.out _ _ H2.out (Nat.le_trans hBw (Nat.le_trans hb1.size hb2.size))).mono ?_
  rintro e w4 ⟨dv4, rfl, h4, hb4⟩
  have H4 := Lib.hid h4
  clear h4
  go_wp2_with fail
  go_end0
  exact ⟨rfl, dv4, cv, iv, ov, H4.out, (hb1.trans hb2).trans hb4⟩
set_option maxRecDepth 100000 in
set_option maxHeartbeats 3200000 in
theorem exec_45 (B b bm bb : Nat) (M : MS) (steps : Nat) (dv cv iv ov : Value) (w : World) (h : LibM w B b bm bb M steps false dv cv iv ov) (hd : M.data.length ≤ 256) (hdv : ∀ v ∈ M.data, v < 4294967296) (hBw : B ≤ w.heap.size) :
    Calls Tryd.prog 83 #[.pointer (some ⟨b, 0, none⟩), .int .u32 45] w (XPost B b bm bb M steps (stepS M 45) w) := by
  have hs : stepS M 45 = (popS M).bind fun (b, m1) => (popS m1).bind fun (a, m2) => (binS 45 a b).bind fun v => pushS v m2 := by
    unfold stepS
    rw [if_neg (show ¬ digN 45 = true by decide), if_neg (show ¬ (45 = 32 ∨ 45 = 10) by decide), if_pos (show isBin 45 = true by decide)]
  rw [hs]
  obtain ⟨⟨c0, c1, c2, c3, c4, c5, c6, c7, c8, c9⟩, hfz, hlt⟩ := ten h.1
  have hlk := lookup_at w bb 45 1 (.func (.func 75) #[] #[]) h.2.2.2 rfl
  have HC := Lib.hid (fun W => check_true W)
  rcases list_end M.data with h0 | ⟨l, y, h0⟩
  · have HA := Lib.hid (pop_none B b bm bb M steps false dv cv iv ov w h h0)
    rw [popS_nil h0]
    have H := Lib.hid h
    clear h hs h0 hfz
    go_enter Tryd.func83, Tryd.ntmps83
    go_wp2_with fail
    refine (HC.out _).mono ?_
    rintro e w0 ⟨rfl, rfl⟩
    go_wp2_with fail
    refine HA.out.mono ?_
    rintro e w1 ⟨rfl, rfl⟩
    go_wp2_with fail
    exact ⟨rfl, rfl, M, dv, cv, iv, ov, H.out, rfl, Below.refl B w⟩
  have hy : y < 4294967296 := hdv y (by rw [h0]; simp)
  rw [h0, List.length_append] at hd
  simp only [List.length_singleton] at hd
  have HA := Lib.hid (pop_any B b bm bb M steps false dv cv iv ov l y w h h0 (by omega))
  rw [popS_snoc h0]
  simp only [Option.bind_some]
  rcases list_end l with h1 | ⟨l2, a, h1⟩
  · subst h1
    rw [popS_nil (m := { M with data := [] }) rfl]
    have HB := Lib.hid (fun W dv1 (hW : LibM W B b bm bb { M with data := [] } steps false dv1 cv iv ov) => pop_none B b bm bb { M with data := [] } steps false dv1 cv iv ov W hW rfl)
    clear h hs h0 hfz hdv
    go_enter Tryd.func83, Tryd.ntmps83
    go_wp2_with fail
    refine (HC.out _).mono ?_
    rintro e w0 ⟨rfl, rfl⟩
    go_wp2_with fail
    refine HA.out.mono ?_
    rintro e w1 ⟨dv1, rfl, h1, hb1⟩
    have H1 := Lib.hid h1
    clear h1
    go_wp2_with fail
    refine (HB.out _ _ H1.out).mono ?_
    rintro e w2 ⟨rfl, rfl⟩
    go_wp2_with fail
    exact ⟨rfl, rfl, _, dv1, cv, iv, ov, H1.out, rfl, hb1⟩
  subst h1
  have ha : a < 4294967296 := hdv a (by rw [h0]; simp)
  rw [popS_snoc (m := { M with data := l2 ++ [a] }) rfl]
  simp only [Option.bind_some]
  rw [List.length_append] at hd
  simp only [List.length_singleton] at hd
  have hbin : binS 45 a y = some ((a + 4294967296 - y) % 4294967296) := by unfold binS; simp
  rw [hbin]
  simp only [Option.bind_some]
  obtain ⟨r, hr⟩ : ∃ r : Nat, r = ((a + 4294967296 - y) % 4294967296) := ⟨_, rfl⟩
  have HF := Lib.hid (fun W => bin_sub a y W ha hy)
  rw [← hr] at HF ⊢
  have hpu : pushS r { M with data := l2 } = some { M with data := l2 ++ [r] } := by unfold pushS; rw [if_pos (show l2.length < 256 by omega)]
  rw [hpu]
  have HB := Lib.hid (fun W dv1 (hW : LibM W B b bm bb { M with data := l2 ++ [a] } steps false dv1 cv iv ov) => pop_any B b bm bb { M with data := l2 ++ [a] } steps false dv1 cv iv ov l2 a W hW rfl (by omega))
  have HU := Lib.hid (fun W dv1 (hW : LibM W B b bm bb { M with data := l2 } steps false dv1 cv iv ov) (hz : B ≤ W.heap.size) => push_any B b bm bb { M with data := l2 } steps false dv1 cv iv ov r W hW (show l2.length < 256 by omega) hz)
  clear h hs h0 hfz hbin hpu hr hdv
  go_enter Tryd.func83, Tryd.ntmps83
  go_wp2_with fail
  refine (HC.out _).mono ?_
  rintro e w0 ⟨rfl, rfl⟩
  go_wp2_with fail
  refine HA.out.mono ?_
  rintro e w1 ⟨dv1, rfl, h1, hb1⟩
  have H1 := Lib.hid h1
  clear h1
  go_wp2_with fail
  refine (HB.out _ _ H1.out).mono ?_
  rintro e w2 ⟨dv2, rfl, h2, hb2⟩
  have H2 := Lib.hid h2
  clear h2
  go_wp2_with fail
  refine (HF.out _).mono ?_
  rintro e w3 ⟨rfl, rfl⟩
  go_wp2_with fail
  refine (HU.out _ _ H2.out (Nat.le_trans hBw (Nat.le_trans hb1.size hb2.size))).mono ?_
  rintro e w4 ⟨dv4, rfl, h4, hb4⟩
  have H4 := Lib.hid h4
  clear h4
  go_wp2_with fail
  go_end0
  exact ⟨rfl, dv4, cv, iv, ov, H4.out, (hb1.trans hb2).trans hb4⟩
set_option maxRecDepth 100000 in
set_option maxHeartbeats 3200000 in
theorem exec_42 (B b bm bb : Nat) (M : MS) (steps : Nat) (dv cv iv ov : Value) (w : World) (h : LibM w B b bm bb M steps false dv cv iv ov) (hd : M.data.length ≤ 256) (hdv : ∀ v ∈ M.data, v < 4294967296) (hBw : B ≤ w.heap.size) :
    Calls Tryd.prog 83 #[.pointer (some ⟨b, 0, none⟩), .int .u32 42] w (XPost B b bm bb M steps (stepS M 42) w) := by
  have hs : stepS M 42 = (popS M).bind fun (b, m1) => (popS m1).bind fun (a, m2) => (binS 42 a b).bind fun v => pushS v m2 := by
    unfold stepS
    rw [if_neg (show ¬ digN 42 = true by decide), if_neg (show ¬ (42 = 32 ∨ 42 = 10) by decide), if_pos (show isBin 42 = true by decide)]
  rw [hs]
  obtain ⟨⟨c0, c1, c2, c3, c4, c5, c6, c7, c8, c9⟩, hfz, hlt⟩ := ten h.1
  have hlk := lookup_at w bb 42 2 (.func (.func 76) #[] #[]) h.2.2.2 rfl
  have HC := Lib.hid (fun W => check_true W)
  rcases list_end M.data with h0 | ⟨l, y, h0⟩
  · have HA := Lib.hid (pop_none B b bm bb M steps false dv cv iv ov w h h0)
    rw [popS_nil h0]
    have H := Lib.hid h
    clear h hs h0 hfz
    go_enter Tryd.func83, Tryd.ntmps83
    go_wp2_with fail
    refine (HC.out _).mono ?_
    rintro e w0 ⟨rfl, rfl⟩
    go_wp2_with fail
    refine HA.out.mono ?_
    rintro e w1 ⟨rfl, rfl⟩
    go_wp2_with fail
    exact ⟨rfl, rfl, M, dv, cv, iv, ov, H.out, rfl, Below.refl B w⟩
  have hy : y < 4294967296 := hdv y (by rw [h0]; simp)
  rw [h0, List.length_append] at hd
  simp only [List.length_singleton] at hd
  have HA := Lib.hid (pop_any B b bm bb M steps false dv cv iv ov l y w h h0 (by omega))
  rw [popS_snoc h0]
  simp only [Option.bind_some]
  rcases list_end l with h1 | ⟨l2, a, h1⟩
  · subst h1
    rw [popS_nil (m := { M with data := [] }) rfl]
    have HB := Lib.hid (fun W dv1 (hW : LibM W B b bm bb { M with data := [] } steps false dv1 cv iv ov) => pop_none B b bm bb { M with data := [] } steps false dv1 cv iv ov W hW rfl)
    clear h hs h0 hfz hdv
    go_enter Tryd.func83, Tryd.ntmps83
    go_wp2_with fail
    refine (HC.out _).mono ?_
    rintro e w0 ⟨rfl, rfl⟩
    go_wp2_with fail
    refine HA.out.mono ?_
    rintro e w1 ⟨dv1, rfl, h1, hb1⟩
    have H1 := Lib.hid h1
    clear h1
    go_wp2_with fail
    refine (HB.out _ _ H1.out).mono ?_
    rintro e w2 ⟨rfl, rfl⟩
    go_wp2_with fail
    exact ⟨rfl, rfl, _, dv1, cv, iv, ov, H1.out, rfl, hb1⟩
  subst h1
  have ha : a < 4294967296 := hdv a (by rw [h0]; simp)
  rw [popS_snoc (m := { M with data := l2 ++ [a] }) rfl]
  simp only [Option.bind_some]
  rw [List.length_append] at hd
  simp only [List.length_singleton] at hd
  have hbin : binS 42 a y = some (a * y % 4294967296) := by unfold binS; simp
  rw [hbin]
  simp only [Option.bind_some]
  obtain ⟨r, hr⟩ : ∃ r : Nat, r = (a * y % 4294967296) := ⟨_, rfl⟩
  have HF := Lib.hid (fun W => bin_mul a y W ha hy)
  rw [← hr] at HF ⊢
  have hpu : pushS r { M with data := l2 } = some { M with data := l2 ++ [r] } := by unfold pushS; rw [if_pos (show l2.length < 256 by omega)]
  rw [hpu]
  have HB := Lib.hid (fun W dv1 (hW : LibM W B b bm bb { M with data := l2 ++ [a] } steps false dv1 cv iv ov) => pop_any B b bm bb { M with data := l2 ++ [a] } steps false dv1 cv iv ov l2 a W hW rfl (by omega))
  have HU := Lib.hid (fun W dv1 (hW : LibM W B b bm bb { M with data := l2 } steps false dv1 cv iv ov) (hz : B ≤ W.heap.size) => push_any B b bm bb { M with data := l2 } steps false dv1 cv iv ov r W hW (show l2.length < 256 by omega) hz)
  clear h hs h0 hfz hbin hpu hr hdv
  go_enter Tryd.func83, Tryd.ntmps83
  go_wp2_with fail
  refine (HC.out _).mono ?_
  rintro e w0 ⟨rfl, rfl⟩
  go_wp2_with fail
  refine HA.out.mono ?_
  rintro e w1 ⟨dv1, rfl, h1, hb1⟩
  have H1 := Lib.hid h1
  clear h1
  go_wp2_with fail
  refine (HB.out _ _ H1.out).mono ?_
  rintro e w2 ⟨dv2, rfl, h2, hb2⟩
  have H2 := Lib.hid h2
  clear h2
  go_wp2_with fail
  refine (HF.out _).mono ?_
  rintro e w3 ⟨rfl, rfl⟩
  go_wp2_with fail
  refine (HU.out _ _ H2.out (Nat.le_trans hBw (Nat.le_trans hb1.size hb2.size))).mono ?_
  rintro e w4 ⟨dv4, rfl, h4, hb4⟩
  have H4 := Lib.hid h4
  clear h4
  go_wp2_with fail
  go_end0
  exact ⟨rfl, dv4, cv, iv, ov, H4.out, (hb1.trans hb2).trans hb4⟩
set_option maxRecDepth 100000 in
set_option maxHeartbeats 3200000 in
theorem exec_47 (B b bm bb : Nat) (M : MS) (steps : Nat) (dv cv iv ov : Value) (w : World) (h : LibM w B b bm bb M steps false dv cv iv ov) (hd : M.data.length ≤ 256) (hdv : ∀ v ∈ M.data, v < 4294967296) (hBw : B ≤ w.heap.size) :
    Calls Tryd.prog 83 #[.pointer (some ⟨b, 0, none⟩), .int .u32 47] w (XPost B b bm bb M steps (stepS M 47) w) := by
  have hs : stepS M 47 = (popS M).bind fun (b, m1) => (popS m1).bind fun (a, m2) => (binS 47 a b).bind fun v => pushS v m2 := by
    unfold stepS
    rw [if_neg (show ¬ digN 47 = true by decide), if_neg (show ¬ (47 = 32 ∨ 47 = 10) by decide), if_pos (show isBin 47 = true by decide)]
  rw [hs]
  obtain ⟨⟨c0, c1, c2, c3, c4, c5, c6, c7, c8, c9⟩, hfz, hlt⟩ := ten h.1
  have hlk := lookup_at w bb 47 3 (.func (.func 77) #[] #[]) h.2.2.2 rfl
  have HC := Lib.hid (fun W => check_true W)
  rcases list_end M.data with h0 | ⟨l, y, h0⟩
  · have HA := Lib.hid (pop_none B b bm bb M steps false dv cv iv ov w h h0)
    rw [popS_nil h0]
    have H := Lib.hid h
    clear h hs h0 hfz
    go_enter Tryd.func83, Tryd.ntmps83
    go_wp2_with fail
    refine (HC.out _).mono ?_
    rintro e w0 ⟨rfl, rfl⟩
    go_wp2_with fail
    refine HA.out.mono ?_
    rintro e w1 ⟨rfl, rfl⟩
    go_wp2_with fail
    exact ⟨rfl, rfl, M, dv, cv, iv, ov, H.out, rfl, Below.refl B w⟩
  have hy : y < 4294967296 := hdv y (by rw [h0]; simp)
  rw [h0, List.length_append] at hd
  simp only [List.length_singleton] at hd
  have HA := Lib.hid (pop_any B b bm bb M steps false dv cv iv ov l y w h h0 (by omega))
  rw [popS_snoc h0]
  simp only [Option.bind_some]
  rcases list_end l with h1 | ⟨l2, a, h1⟩
  · subst h1
    rw [popS_nil (m := { M with data := [] }) rfl]
    have HB := Lib.hid (fun W dv1 (hW : LibM W B b bm bb { M with data := [] } steps false dv1 cv iv ov) => pop_none B b bm bb { M with data := [] } steps false dv1 cv iv ov W hW rfl)
    clear h hs h0 hfz hdv
    go_enter Tryd.func83, Tryd.ntmps83
    go_wp2_with fail
    refine (HC.out _).mono ?_
    rintro e w0 ⟨rfl, rfl⟩
    go_wp2_with fail
    refine HA.out.mono ?_
    rintro e w1 ⟨dv1, rfl, h1, hb1⟩
    have H1 := Lib.hid h1
    clear h1
    go_wp2_with fail
    refine (HB.out _ _ H1.out).mono ?_
    rintro e w2 ⟨rfl, rfl⟩
    go_wp2_with fail
    exact ⟨rfl, rfl, _, dv1, cv, iv, ov, H1.out, rfl, hb1⟩
  subst h1
  have ha : a < 4294967296 := hdv a (by rw [h0]; simp)
  rw [popS_snoc (m := { M with data := l2 ++ [a] }) rfl]
  simp only [Option.bind_some]
  rw [List.length_append] at hd
  simp only [List.length_singleton] at hd
  by_cases h0y : y = 0
  · subst h0y
    have hbin : binS 47 a 0 = none := by unfold binS; simp
    rw [hbin]
    simp only [Option.bind_none]
    have HF := Lib.hid (fun W => bin_div0 a W)
    have HB := Lib.hid (fun W dv1 (hW : LibM W B b bm bb { M with data := l2 ++ [a] } steps false dv1 cv iv ov) => pop_any B b bm bb { M with data := l2 ++ [a] } steps false dv1 cv iv ov l2 a W hW rfl (by omega))
    clear h hs h0 hfz hbin hdv
    go_enter Tryd.func83, Tryd.ntmps83
    go_wp2_with fail
    refine (HC.out _).mono ?_
    rintro e w0 ⟨rfl, rfl⟩
    go_wp2_with fail
    refine HA.out.mono ?_
    rintro e w1 ⟨dv1, rfl, h1, hb1⟩
    have H1 := Lib.hid h1
    clear h1
    go_wp2_with fail
    refine (HB.out _ _ H1.out).mono ?_
    rintro e w2 ⟨dv2, rfl, h2, hb2⟩
    have H2 := Lib.hid h2
    clear h2
    go_wp2_with fail
    refine (HF.out _).mono ?_
    rintro e w3 ⟨rfl, rfl⟩
    go_wp2_with fail
    exact ⟨rfl, rfl, _, dv2, cv, iv, ov, H2.out, rfl, hb1.trans hb2⟩
  · have hbin : binS 47 a y = some (a / y) := by unfold binS; simp [h0y]
    rw [hbin]
    simp only [Option.bind_some]
    obtain ⟨r, hr⟩ : ∃ r : Nat, r = (a / y) := ⟨_, rfl⟩
    have HF := Lib.hid (fun W => bin_div a y W ha hy h0y)
    rw [← hr] at HF ⊢
    have hpu : pushS r { M with data := l2 } = some { M with data := l2 ++ [r] } := by unfold pushS; rw [if_pos (show l2.length < 256 by omega)]
    rw [hpu]
    have HB := Lib.hid (fun W dv1 (hW : LibM W B b bm bb { M with data := l2 ++ [a] } steps false dv1 cv iv ov) => pop_any B b bm bb { M with data := l2 ++ [a] } steps false dv1 cv iv ov l2 a W hW rfl (by omega))
    have HU := Lib.hid (fun W dv1 (hW : LibM W B b bm bb { M with data := l2 } steps false dv1 cv iv ov) (hz : B ≤ W.heap.size) => push_any B b bm bb { M with data := l2 } steps false dv1 cv iv ov r W hW (show l2.length < 256 by omega) hz)
    clear h hs h0 hfz hbin hpu hr hdv
    go_enter Tryd.func83, Tryd.ntmps83
    go_wp2_with fail
    refine (HC.out _).mono ?_
    rintro e w0 ⟨rfl, rfl⟩
    go_wp2_with fail
    refine HA.out.mono ?_
    rintro e w1 ⟨dv1, rfl, h1, hb1⟩
    have H1 := Lib.hid h1
    clear h1
    go_wp2_with fail
    refine (HB.out _ _ H1.out).mono ?_
    rintro e w2 ⟨dv2, rfl, h2, hb2⟩
    have H2 := Lib.hid h2
    clear h2
    go_wp2_with fail
    refine (HF.out _).mono ?_
    rintro e w3 ⟨rfl, rfl⟩
    go_wp2_with fail
    refine (HU.out _ _ H2.out (Nat.le_trans hBw (Nat.le_trans hb1.size hb2.size))).mono ?_
    rintro e w4 ⟨dv4, rfl, h4, hb4⟩
    have H4 := Lib.hid h4
    clear h4
    go_wp2_with fail
    go_end0
    exact ⟨rfl, dv4, cv, iv, ov, H4.out, (hb1.trans hb2).trans hb4⟩
set_option maxRecDepth 100000 in
set_option maxHeartbeats 3200000 in
theorem exec_37 (B b bm bb : Nat) (M : MS) (steps : Nat) (dv cv iv ov : Value) (w : World) (h : LibM w B b bm bb M steps false dv cv iv ov) (hd : M.data.length ≤ 256) (hdv : ∀ v ∈ M.data, v < 4294967296) (hBw : B ≤ w.heap.size) :
    Calls Tryd.prog 83 #[.pointer (some ⟨b, 0, none⟩), .int .u32 37] w (XPost B b bm bb M steps (stepS M 37) w) := by
  have hs : stepS M 37 = (popS M).bind fun (b, m1) => (popS m1).bind fun (a, m2) => (binS 37 a b).bind fun v => pushS v m2 := by
    unfold stepS
    rw [if_neg (show ¬ digN 37 = true by decide), if_neg (show ¬ (37 = 32 ∨ 37 = 10) by decide), if_pos (show isBin 37 = true by decide)]
  rw [hs]
  obtain ⟨⟨c0, c1, c2, c3, c4, c5, c6, c7, c8, c9⟩, hfz, hlt⟩ := ten h.1
  have hlk := lookup_at w bb 37 4 (.func (.func 79) #[] #[]) h.2.2.2 rfl
  have HC := Lib.hid (fun W => check_true W)
  rcases list_end M.data with h0 | ⟨l, y, h0⟩
  · have HA := Lib.hid (pop_none B b bm bb M steps false dv cv iv ov w h h0)
    rw [popS_nil h0]
    have H := Lib.hid h
    clear h hs h0 hfz
    go_enter Tryd.func83, Tryd.ntmps83
    go_wp2_with fail
    refine (HC.out _).mono ?_
    rintro e w0 ⟨rfl, rfl⟩
    go_wp2_with fail
    refine HA.out.mono ?_
    rintro e w1 ⟨rfl, rfl⟩
    go_wp2_with fail
    exact ⟨rfl, rfl, M, dv, cv, iv, ov, H.out, rfl, Below.refl B w⟩
  have hy : y < 4294967296 := hdv y (by rw [h0]; simp)
  rw [h0, List.length_append] at hd
  simp only [List.length_singleton] at hd
  have HA := Lib.hid (pop_any B b bm bb M steps false dv cv iv ov l y w h h0 (by omega))
  rw [popS_snoc h0]
  simp only [Option.bind_some]
  rcases list_end l with h1 | ⟨l2, a, h1⟩
  · subst h1
    rw [popS_nil (m := { M with data := [] }) rfl]
    have HB := Lib.hid (fun W dv1 (hW : LibM W B b bm bb { M with data := [] } steps false dv1 cv iv ov) => pop_none B b bm bb { M with data := [] } steps false dv1 cv iv ov W hW rfl)
    clear h hs h0 hfz hdv
    go_enter Tryd.func83, Tryd.ntmps83
    go_wp2_with fail
    refine (HC.out _).mono ?_
    rintro e w0 ⟨rfl, rfl⟩
    go_wp2_with fail
    refine HA.out.mono ?_
    rintro e w1 ⟨dv1, rfl, h1, hb1⟩
    have H1 := Lib.hid h1
    clear h1
    go_wp2_with fail
    refine (HB.out _ _ H1.out).mono ?_
    rintro e w2 ⟨rfl, rfl⟩
    go_wp2_with fail
    exact ⟨rfl, rfl, _, dv1, cv, iv, ov, H1.out, rfl, hb1⟩
  subst h1
  have ha : a < 4294967296 := hdv a (by rw [h0]; simp)
  rw [popS_snoc (m := { M with data := l2 ++ [a] }) rfl]
  simp only [Option.bind_some]
  rw [List.length_append] at hd
  simp only [List.length_singleton] at hd
  by_cases h0y : y = 0
  · subst h0y
    have hbin : binS 37 a 0 = none := by unfold binS; simp
    rw [hbin]
    simp only [Option.bind_none]
    have HF := Lib.hid (fun W => bin_rem0 a W)
    have HB := Lib.hid (fun W dv1 (hW : LibM W B b bm bb { M with data := l2 ++ [a] } steps false dv1 cv iv ov) => pop_any B b bm bb { M with data := l2 ++ [a] } steps false dv1 cv iv ov l2 a W hW rfl (by omega))
    clear h hs h0 hfz hbin hdv
    go_enter Tryd.func83, Tryd.ntmps83
    go_wp2_with fail
    refine (HC.out _).mono ?_
    rintro e w0 ⟨rfl, rfl⟩
    go_wp2_with fail
    refine HA.out.mono ?_
    rintro e w1 ⟨dv1, rfl, h1, hb1⟩
    have H1 := Lib.hid h1
    clear h1
    go_wp2_with fail
    refine (HB.out _ _ H1.out).mono ?_
    rintro e w2 ⟨dv2, rfl, h2, hb2⟩
    have H2 := Lib.hid h2
    clear h2
    go_wp2_with fail
    refine (HF.out _).mono ?_
    rintro e w3 ⟨rfl, rfl⟩
    go_wp2_with fail
    exact ⟨rfl, rfl, _, dv2, cv, iv, ov, H2.out, rfl, hb1.trans hb2⟩
  · have hbin : binS 37 a y = some (a % y) := by unfold binS; simp [h0y]
    rw [hbin]
    simp only [Option.bind_some]
    obtain ⟨r, hr⟩ : ∃ r : Nat, r = (a % y) := ⟨_, rfl⟩
    have HF := Lib.hid (fun W => bin_rem a y W ha hy h0y)
    rw [← hr] at HF ⊢
    have hpu : pushS r { M with data := l2 } = some { M with data := l2 ++ [r] } := by unfold pushS; rw [if_pos (show l2.length < 256 by omega)]
    rw [hpu]
    have HB := Lib.hid (fun W dv1 (hW : LibM W B b bm bb { M with data := l2 ++ [a] } steps false dv1 cv iv ov) => pop_any B b bm bb { M with data := l2 ++ [a] } steps false dv1 cv iv ov l2 a W hW rfl (by omega))
    have HU := Lib.hid (fun W dv1 (hW : LibM W B b bm bb { M with data := l2 } steps false dv1 cv iv ov) (hz : B ≤ W.heap.size) => push_any B b bm bb { M with data := l2 } steps false dv1 cv iv ov r W hW (show l2.length < 256 by omega) hz)
    clear h hs h0 hfz hbin hpu hr hdv
    go_enter Tryd.func83, Tryd.ntmps83
    go_wp2_with fail
    refine (HC.out _).mono ?_
    rintro e w0 ⟨rfl, rfl⟩
    go_wp2_with fail
    refine HA.out.mono ?_
    rintro e w1 ⟨dv1, rfl, h1, hb1⟩
    have H1 := Lib.hid h1
    clear h1
    go_wp2_with fail
    refine (HB.out _ _ H1.out).mono ?_
    rintro e w2 ⟨dv2, rfl, h2, hb2⟩
    have H2 := Lib.hid h2
    clear h2
    go_wp2_with fail
    refine (HF.out _).mono ?_
    rintro e w3 ⟨rfl, rfl⟩
    go_wp2_with fail
    refine (HU.out _ _ H2.out (Nat.le_trans hBw (Nat.le_trans hb1.size hb2.size))).mono ?_
    rintro e w4 ⟨dv4, rfl, h4, hb4⟩
    have H4 := Lib.hid h4
    clear h4
    go_wp2_with fail
    go_end0
    exact ⟨rfl, dv4, cv, iv, ov, H4.out, (hb1.trans hb2).trans hb4⟩
set_option maxRecDepth 100000 in
set_option maxHeartbeats 3200000 in
theorem exec_94 (B b bm bb : Nat) (M : MS) (steps : Nat) (dv cv iv ov : Value) (w : World) (h : LibM w B b bm bb M steps false dv cv iv ov) (hd : M.data.length ≤ 256) (hdv : ∀ v ∈ M.data, v < 4294967296) (hBw : B ≤ w.heap.size) :
    Calls Tryd.prog 83 #[.pointer (some ⟨b, 0, none⟩), .int .u32 94] w (XPost B b bm bb M steps (stepS M 94) w) := by
  have hs : stepS M 94 = (popS M).bind fun (b, m1) => (popS m1).bind fun (a, m2) => (binS 94 a b).bind fun v => pushS v m2 := by
    unfold stepS
    rw [if_neg (show ¬ digN 94 = true by decide), if_neg (show ¬ (94 = 32 ∨ 94 = 10) by decide), if_pos (show isBin 94 = true by decide)]
  rw [hs]
  obtain ⟨⟨c0, c1, c2, c3, c4, c5, c6, c7, c8, c9⟩, hfz, hlt⟩ := ten h.1
  have hlk := lookup_at w bb 94 5 (.func (.func 80) #[] #[]) h.2.2.2 rfl
  have HC := Lib.hid (fun W => check_true W)
  rcases list_end M.data with h0 | ⟨l, y, h0⟩
  · have HA := Lib.hid (pop_none B b bm bb M steps false dv cv iv ov w h h0)
    rw [popS_nil h0]
    have H := Lib.hid h
    clear h hs h0 hfz
    go_enter Tryd.func83, Tryd.ntmps83
    go_wp2_with fail
    refine (HC.out _).mono ?_
    rintro e w0 ⟨rfl, rfl⟩
    go_wp2_with fail
    refine HA.out.mono ?_
    rintro e w1 ⟨rfl, rfl⟩
    go_wp2_with fail
    exact ⟨rfl, rfl, M, dv, cv, iv, ov, H.out, rfl, Below.refl B w⟩
  have hy : y < 4294967296 := hdv y (by rw [h0]; simp)
  rw [h0, List.length_append] at hd
  simp only [List.length_singleton] at hd
  have HA := Lib.hid (pop_any B b bm bb M steps false dv cv iv ov l y w h h0 (by omega))
  rw [popS_snoc h0]
  simp only [Option.bind_some]
  rcases list_end l with h1 | ⟨l2, a, h1⟩
  · subst h1
    rw [popS_nil (m := { M with data := [] }) rfl]
    have HB := Lib.hid (fun W dv1 (hW : LibM W B b bm bb { M with data := [] } steps false dv1 cv iv ov) => pop_none B b bm bb { M with data := [] } steps false dv1 cv iv ov W hW rfl)
    clear h hs h0 hfz hdv
    go_enter Tryd.func83, Tryd.ntmps83
    go_wp2_with fail
    refine (HC.out _).mono ?_
    rintro e w0 ⟨rfl, rfl⟩
    go_wp2_with fail
    refine HA.out.mono ?_
    rintro e w1 ⟨dv1, rfl, h1, hb1⟩
    have H1 := Lib.hid h1
    clear h1
    go_wp2_with fail
    refine (HB.out _ _ H1.out).mono ?_
    rintro e w2 ⟨rfl, rfl⟩
    go_wp2_with fail
    exact ⟨rfl, rfl, _, dv1, cv, iv, ov, H1.out, rfl, hb1⟩
  subst h1
  have ha : a < 4294967296 := hdv a (by rw [h0]; simp)
  rw [popS_snoc (m := { M with data := l2 ++ [a] }) rfl]
  simp only [Option.bind_some]
  rw [List.length_append] at hd
  simp only [List.length_singleton] at hd
  have hbin : binS 94 a y = some (a ^^^ y) := by unfold binS; simp
  rw [hbin]
  simp only [Option.bind_some]
  obtain ⟨r, hr⟩ : ∃ r : Nat, r = (a ^^^ y) := ⟨_, rfl⟩
  have HF := Lib.hid (fun W => bin_xor a y W ha hy)
  rw [← hr] at HF ⊢
  have hpu : pushS r { M with data := l2 } = some { M with data := l2 ++ [r] } := by unfold pushS; rw [if_pos (show l2.length < 256 by omega)]
  rw [hpu]
  have HB := Lib.hid (fun W dv1 (hW : LibM W B b bm bb { M with data := l2 ++ [a] } steps false dv1 cv iv ov) => pop_any B b bm bb { M with data := l2 ++ [a] } steps false dv1 cv iv ov l2 a W hW rfl (by omega))
  have HU := Lib.hid (fun W dv1 (hW : LibM W B b bm bb { M with data := l2 } steps false dv1 cv iv ov) (hz : B ≤ W.heap.size) => push_any B b bm bb { M with data := l2 } steps false dv1 cv iv ov r W hW (show l2.length < 256 by omega) hz)
  clear h hs h0 hfz hbin hpu hr hdv
  go_enter Tryd.func83, Tryd.ntmps83
  go_wp2_with fail
  refine (HC.out _).mono ?_
  rintro e w0 ⟨rfl, rfl⟩
  go_wp2_with fail
  refine HA.out.mono ?_
  rintro e w1 ⟨dv1, rfl, h1, hb1⟩
  have H1 := Lib.hid h1
  clear h1
  go_wp2_with fail
  refine (HB.out _ _ H1.out).mono ?_
  rintro e w2 ⟨dv2, rfl, h2, hb2⟩
  have H2 := Lib.hid h2
  clear h2
  go_wp2_with fail
  refine (HF.out _).mono ?_
  rintro e w3 ⟨rfl, rfl⟩
  go_wp2_with fail
  refine (HU.out _ _ H2.out (Nat.le_trans hBw (Nat.le_trans hb1.size hb2.size))).mono ?_
  rintro e w4 ⟨dv4, rfl, h4, hb4⟩
  have H4 := Lib.hid h4
  clear h4
  go_wp2_with fail
  go_end0
  exact ⟨rfl, dv4, cv, iv, ov, H4.out, (hb1.trans hb2).trans hb4⟩
set_option maxRecDepth 100000 in
set_option maxHeartbeats 3200000 in
theorem exec_60 (B b bm bb : Nat) (M : MS) (steps : Nat) (dv cv iv ov : Value) (w : World) (h : LibM w B b bm bb M steps false dv cv iv ov) (hd : M.data.length ≤ 256) (hdv : ∀ v ∈ M.data, v < 4294967296) (hBw : B ≤ w.heap.size) :
    Calls Tryd.prog 83 #[.pointer (some ⟨b, 0, none⟩), .int .u32 60] w (XPost B b bm bb M steps (stepS M 60) w) := by
  have hs : stepS M 60 = (popS M).bind fun (b, m1) => (popS m1).bind fun (a, m2) => (binS 60 a b).bind fun v => pushS v m2 := by
    unfold stepS
    rw [if_neg (show ¬ digN 60 = true by decide), if_neg (show ¬ (60 = 32 ∨ 60 = 10) by decide), if_pos (show isBin 60 = true by decide)]
  rw [hs]
  obtain ⟨⟨c0, c1, c2, c3, c4, c5, c6, c7, c8, c9⟩, hfz, hlt⟩ := ten h.1
  have hlk := lookup_at w bb 60 6 (.func (.func 81) #[] #[]) h.2.2.2 rfl
  have HC := Lib.hid (fun W => check_true W)
  rcases list_end M.data with h0 | ⟨l, y, h0⟩
  · have HA := Lib.hid (pop_none B b bm bb M steps false dv cv iv ov w h h0)
    rw [popS_nil h0]
    have H := Lib.hid h
    clear h hs h0 hfz
    go_enter Tryd.func83, Tryd.ntmps83
    go_wp2_with fail
    refine (HC.out _).mono ?_
    rintro e w0 ⟨rfl, rfl⟩
    go_wp2_with fail
    refine HA.out.mono ?_
    rintro e w1 ⟨rfl, rfl⟩
    go_wp2_with fail
    exact ⟨rfl, rfl, M, dv, cv, iv, ov, H.out, rfl, Below.refl B w⟩
  have hy : y < 4294967296 := hdv y (by rw [h0]; simp)
  rw [h0, List.length_append] at hd
  simp only [List.length_singleton] at hd
  have HA := Lib.hid (pop_any B b bm bb M steps false dv cv iv ov l y w h h0 (by omega))
  rw [popS_snoc h0]
  simp only [Option.bind_some]
  rcases list_end l with h1 | ⟨l2, a, h1⟩
  · subst h1
    rw [popS_nil (m := { M with data := [] }) rfl]
    have HB := Lib.hid (fun W dv1 (hW : LibM W B b bm bb { M with data := [] } steps false dv1 cv iv ov) => pop_none B b bm bb { M with data := [] } steps false dv1 cv iv ov W hW rfl)
    clear h hs h0 hfz hdv
    go_enter Tryd.func83, Tryd.ntmps83
    go_wp2_with fail
    refine (HC.out _).mono ?_
    rintro e w0 ⟨rfl, rfl⟩
    go_wp2_with fail
    refine HA.out.mono ?_
    rintro e w1 ⟨dv1, rfl, h1, hb1⟩
    have H1 := Lib.hid h1
    clear h1
    go_wp2_with fail
    refine (HB.out _ _ H1.out).mono ?_
    rintro e w2 ⟨rfl, rfl⟩
    go_wp2_with fail
    exact ⟨rfl, rfl, _, dv1, cv, iv, ov, H1.out, rfl, hb1⟩
  subst h1
  have ha : a < 4294967296 := hdv a (by rw [h0]; simp)
  rw [popS_snoc (m := { M with data := l2 ++ [a] }) rfl]
  simp only [Option.bind_some]
  rw [List.length_append] at hd
  simp only [List.length_singleton] at hd
  have hbin : binS 60 a y = some (if a < y then 1 else 0) := by unfold binS; simp
  rw [hbin]
  simp only [Option.bind_some]
  obtain ⟨r, hr⟩ : ∃ r : Nat, r = (if a < y then 1 else 0) := ⟨_, rfl⟩
  have HF := Lib.hid (fun W => bin_lss a y W ha hy)
  rw [← hr] at HF ⊢
  have hpu : pushS r { M with data := l2 } = some { M with data := l2 ++ [r] } := by unfold pushS; rw [if_pos (show l2.length < 256 by omega)]
  rw [hpu]
  have HB := Lib.hid (fun W dv1 (hW : LibM W B b bm bb { M with data := l2 ++ [a] } steps false dv1 cv iv ov) => pop_any B b bm bb { M with data := l2 ++ [a] } steps false dv1 cv iv ov l2 a W hW rfl (by omega))
  have HU := Lib.hid (fun W dv1 (hW : LibM W B b bm bb { M with data := l2 } steps false dv1 cv iv ov) (hz : B ≤ W.heap.size) => push_any B b bm bb { M with data := l2 } steps false dv1 cv iv ov r W hW (show l2.length < 256 by omega) hz)
  clear h hs h0 hfz hbin hpu hr hdv
  go_enter Tryd.func83, Tryd.ntmps83
  go_wp2_with fail
  refine (HC.out _).mono ?_
  rintro e w0 ⟨rfl, rfl⟩
  go_wp2_with fail
  refine HA.out.mono ?_
  rintro e w1 ⟨dv1, rfl, h1, hb1⟩
  have H1 := Lib.hid h1
  clear h1
  go_wp2_with fail
  refine (HB.out _ _ H1.out).mono ?_
  rintro e w2 ⟨dv2, rfl, h2, hb2⟩
  have H2 := Lib.hid h2
  clear h2
  go_wp2_with fail
  refine (HF.out _).mono ?_
  rintro e w3 ⟨rfl, rfl⟩
  go_wp2_with fail
  refine (HU.out _ _ H2.out (Nat.le_trans hBw (Nat.le_trans hb1.size hb2.size))).mono ?_
  rintro e w4 ⟨dv4, rfl, h4, hb4⟩
  have H4 := Lib.hid h4
  clear h4
  go_wp2_with fail
  go_end0
  exact ⟨rfl, dv4, cv, iv, ov, H4.out, (hb1.trans hb2).trans hb4⟩
end Go.Proofs.YtimegcnpembhkaaDoor
namespace Go.Proofs.YtimegcnpembhkaaDoor
open Go.RowKit
open Go.Lib hiding intOf
set_option linter.unusedVariables false

theorem exec_any (B b bm bb : Nat) (M : MS) (steps : Nat) (dv cv iv ov : Value) (w : World) (h : LibM w B b bm bb M steps false dv cv iv ov) (ok : M.Ok) (hol : M.out.length ≤ 100000000) (hBw : B ≤ w.heap.size) (c : Nat) (hc : c < 4294967296) (h36 : c ≠ 36) :
    Calls Tryd.prog 83 #[.pointer (some ⟨b, 0, none⟩), .int .u32 (c : Int)] w (XPost B b bm bb M steps (stepS M c) w) := by
  by_cases h1 : digN c = true
  · have h0 : 48 ≤ c ∧ c ≤ 57 := by unfold digN at h1; simpa using h1
    have h2 : c = 48 ∨ c = 49 ∨ c = 50 ∨ c = 51 ∨ c = 52 ∨ c = 53 ∨ c = 54 ∨ c = 55 ∨ c = 56 ∨ c = 57 := by omega
    rcases h2 with rfl | rfl | rfl | rfl | rfl | rfl | rfl | rfl | rfl | rfl
    · exact exec_48 B b bm bb M steps dv cv iv ov w h ok.dlen ok.dig ok.data hBw
    · exact exec_49 B b bm bb M steps dv cv iv ov w h ok.dlen ok.dig ok.data hBw
    · exact exec_50 B b bm bb M steps dv cv iv ov w h ok.dlen ok.dig ok.data hBw
    · exact exec_51 B b bm bb M steps dv cv iv ov w h ok.dlen ok.dig ok.data hBw
    · exact exec_52 B b bm bb M steps dv cv iv ov w h ok.dlen ok.dig ok.data hBw
    · exact exec_53 B b bm bb M steps dv cv iv ov w h ok.dlen ok.dig ok.data hBw
    · exact exec_54 B b bm bb M steps dv cv iv ov w h ok.dlen ok.dig ok.data hBw
    · exact exec_55 B b bm bb M steps dv cv iv ov w h ok.dlen ok.dig ok.data hBw
    · exact exec_56 B b bm bb M steps dv cv iv ov w h ok.dlen ok.dig ok.data hBw
    · exact exec_57 B b bm bb M steps dv cv iv ov w h ok.dlen ok.dig ok.data hBw
  by_cases h2 : c = 32 ∨ c = 10
  · exact exec_blank B b bm bb M steps dv cv iv ov w h c h2
  by_cases h3 : isBin c = true
  · have h0 : c = 43 ∨ c = 45 ∨ c = 42 ∨ c = 47 ∨ c = 37 ∨ c = 94 ∨ c = 60 := by unfold isBin at h3; simpa using h3
    rcases h0 with rfl | rfl | rfl | rfl | rfl | rfl | rfl
    · exact exec_43 B b bm bb M steps dv cv iv ov w h ok.dlen ok.data hBw
    · exact exec_45 B b bm bb M steps dv cv iv ov w h ok.dlen ok.data hBw
    · exact exec_42 B b bm bb M steps dv cv iv ov w h ok.dlen ok.data hBw
    · exact exec_47 B b bm bb M steps dv cv iv ov w h ok.dlen ok.data hBw
    · exact exec_37 B b bm bb M steps dv cv iv ov w h ok.dlen ok.data hBw
    · exact exec_94 B b bm bb M steps dv cv iv ov w h ok.dlen ok.data hBw
    · exact exec_60 B b bm bb M steps dv cv iv ov w h ok.dlen ok.data hBw
  by_cases h4 : c = 64
  · subst h4; exact exec_fetch B b bm bb M steps dv cv iv ov w h ok.dlen hBw
  by_cases h5 : c = 33
  · subst h5; exact exec_store B b bm bb M steps dv cv iv ov w h ok.dlen
  by_cases h6 : c = 63
  · subst h6; exact exec_jump B b bm bb M steps dv cv iv ov w h ok.dlen hBw
  by_cases h7 : c = 58
  · subst h7; exact exec_call B b bm bb M steps dv cv iv ov w h ok.dlen ok.clen hBw
  by_cases h8 : c = 59
  · subst h8; exact exec_ret B b bm bb M steps dv cv iv ov w h ok.clen
  by_cases h9 : c = 44
  · subst h9; exact exec_in B b bm bb M steps dv cv iv ov w h ok.dlen hBw
  by_cases h10 : c = 46
  · subst h10; exact exec_out B b bm bb M steps dv cv iv ov w h ok.dlen hol hBw
  · have hn : stepS M c = none := by
      unfold stepS
      rw [if_neg h1, if_neg h2, if_neg h3, if_neg h4, if_neg h5, if_neg h6, if_neg h7, if_neg h8, if_neg h9, if_neg h10]
    rw [hn]
    exact exec_other B b bm bb M steps dv cv iv ov w h c hc (by simpa using h1) h2 (by simpa using h3) h4 h5 h6 h7 h8 h9 h10 h36
end Go.Proofs.YtimegcnpembhkaaDoor
