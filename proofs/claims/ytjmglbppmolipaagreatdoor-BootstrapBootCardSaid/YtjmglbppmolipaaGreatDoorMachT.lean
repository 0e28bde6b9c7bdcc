/- The reference of the machine: push, step, instruction by instruction, operate, Run as one contract. (Layer 17; the seven binary instructions are printed by bin/genrbin.py) -/
import Derived.Test.YtjmglbppmolipaaGreatDoorMachM2
import Derived.StillTailTactics
import Derived.BigRegion
import Derived.BigQuiet
import Derived.Deep.QuietTactic
import Derived.Test.YtjmglbppmolipaaGreatDoorMachM4
namespace Go.Proofs.YtjmglbppmolipaaGreatDoor
open Go.RowKit
open Go.Lib hiding intOf
set_option linter.unusedVariables false
attribute [local simp] Slots Slot look Is Oper.looksAt Op.operands Call.operands

/-- the reference's machine in block b -/
def RefM (w : World) (B b bm : Nat) (M : MS) (dv cv iv ov : Value) : Prop :=
  Blk w b 88 [.slice (some ⟨bm, 0, none⟩) 262144 262144, .int .u32 (M.pc : Int), dv, cv, iv, ov, .bool M.digit] ∧ B ≤ b ∧ Parts w B bm M dv cv iv ov
theorem seven {w : World} {b : Nat} {T : TypeId} {x0 x1 x2 x3 x4 x5 x6 : Value} (h : Blk w b T [x0, x1, x2, x3, x4, x5, x6]) :
    (w.cell? ⟨b, 0, none⟩ = some x0 ∧ w.cell? ⟨b, 1, none⟩ = some x1 ∧ w.cell? ⟨b, 2, none⟩ = some x2 ∧ w.cell? ⟨b, 3, none⟩ = some x3 ∧ w.cell? ⟨b, 4, none⟩ = some x4 ∧ w.cell? ⟨b, 5, none⟩ = some x5 ∧ w.cell? ⟨b, 6, none⟩ = some x6) ∧
    (∀ i, w.frozen? ⟨b, i, none⟩ = false) ∧ b < w.heap.size :=
  ⟨⟨h.cell rfl, h.cell rfl, h.cell rfl, h.cell rfl, h.cell rfl, h.cell rfl, h.cell rfl⟩, fun i => blk_frozen h i, h.lt⟩
def SPost (B b bm : Nat) (M : MS) (r : Option MS) (w : World) (e : Ending) (w' : World) : Prop :=
  match r with
  | some M' => e = .returned (.bool true) ∧ ∃ dv cv iv ov, RefM w' B b bm M' dv cv iv ov ∧ Below B w w'
  | none => e = .returned (.bool false) ∧ ∃ M' dv cv iv ov, RefM w' B b bm M' dv cv iv ov ∧ M'.out = M.out ∧ Below B w w'
theorem RefM.cell {w : World} {B b bm : Nat} {M M' : MS} {dv cv iv ov dv' cv' iv' ov' : Value} (h : RefM w B b bm M dv cv iv ov) (j : Nat) (v : Value)
    (hx : ([.slice (some ⟨bm, 0, none⟩) 262144 262144, .int .u32 (M.pc : Int), dv, cv, iv, ov, .bool M.digit] : List Value).set j v = [.slice (some ⟨bm, 0, none⟩) 262144 262144, .int .u32 (M'.pc : Int), dv', cv', iv', ov', .bool M'.digit])
    (hp : Parts w B bm M' dv' cv' iv' ov') : RefM (w.setCell ⟨b, j, none⟩ v) B b bm M' dv' cv' iv' ov' := by
  obtain ⟨h1, h2, -⟩ := h
  refine ⟨?_, h2, hp.keep h2 (blk_not h1 (by decide)) (blk_not h1 (by decide)) (blk_not h1 (by decide)) (Keep.set j v)⟩
  have := blk_set h1 j v
  rwa [hx] at this
theorem RefM.drew {w : World} {B b bm : Nat} {M : MS} {dv cv iv ov : Value} (h : RefM w B b bm M dv cv iv ov) : RefM w.drew B b bm M dv cv iv ov := by
  obtain ⟨h1, h2, ⟨p1, p2, p3, p4, p5, p6, p7, p8, p9, p10⟩⟩ := h
  refine ⟨h1, h2, ⟨p1, p2, p3, p4, p5, ?_, p7, p8, p9, p10⟩⟩
  obtain ⟨A, n, c, e, hl, hA⟩ := p6
  exact ⟨A, n, c, e, ⟨hl.len, hl.room, hl.max, hl.at_⟩, hA⟩
theorem RefM.drewN {w : World} {B b bm : Nat} {M : MS} {dv cv iv ov : Value} (h : RefM w B b bm M dv cv iv ov) (n : Nat) : RefM (w.drewN n) B b bm M dv cv iv ov := by
  obtain ⟨h1, h2, ⟨p1, p2, p3, p4, p5, p6, p7, p8, p9, p10⟩⟩ := h
  refine ⟨h1, h2, ⟨p1, p2, p3, p4, p5, ?_, p7, p8, p9, p10⟩⟩
  obtain ⟨A, n, c, e, hl, hA⟩ := p6
  exact ⟨A, n, c, e, ⟨hl.len, hl.room, hl.max, hl.at_⟩, hA⟩
set_option maxRecDepth 100000 in
set_option maxHeartbeats 3200000 in
theorem rpush_any (B b bm : Nat) (M : MS) (dv cv iv ov : Value) (v : Nat) (w : World) (h : RefM w B b bm M dv cv iv ov) (hd : M.data.length ≤ 256) (hBw : B ≤ w.heap.size) :
    Calls Tryz.prog 77 #[.pointer (some ⟨b, 0, none⟩), .int .u32 (v : Int)] w (SPost B b bm M (pushS v M) w) := by
  obtain ⟨hb, hBb, hp⟩ := h
  have H := Lib.hid (show RefM w B b bm M dv cv iv ov from ⟨hb, hBb, hp⟩)
  have HB := Lib.hid hb
  have HP := Lib.hid hp
  obtain ⟨⟨c0, c1, c2, c3, c4, c5, c6⟩, hfz, hlt⟩ := seven hb
  have f2 := hfz 2
  obtain ⟨A, cd, rfl, hl⟩ := Lst.of_own hp.data
  have hrm := hl.room
  have hmx := hl.max
  unfold maxLen at hmx
  have HO := Lib.hid hp.data
  obtain ⟨i0, hi, hz0, hz1, hz2⟩ := info_parts u32InfoM
  unfold pushS
  obtain ⟨m, hm⟩ : ∃ m, m = M.data.length := ⟨_, rfl⟩
  rw [← hm] at hd hl hrm HO HB HP c2 H ⊢
  have hx : Below B w w := Below.refl _ _
  have HM := Lib.hid hm
  by_cases h256 : m < 256
  · rw [if_pos h256]
    have hdt : decide ((256 : Int) ≤ (m : Int)) = false := decide_eq_false (by omega)
    clear hb hp hfz hl hm
    go_enter Tryz.func77, Tryz.ntmps77
    go_wp2_with (at_builtin; refine wpList_append_own_at _ rfl (.tmp 15) (.tmp 17) _ rfl B 23 i0 _ 1 4 Tryz.underlying44 hi hz0 hz1 hz2 rfl (by omega) _ _ _ rfl (HO.out.alloc _) ⟨w.heap.size, 0, none⟩ 1 1 [.int .u32 (v : Int)] rfl rfl (cell_one_new _ _ _) ?k1 ?k2 ?k3 ?k4 ?_)
    case k1 => intro u hu; simp at hu; subst hu; rfl
    case k2 => unfold maxLen; omega
    case k3 => omega
    case k4 => simp; omega
    intro dv' w2 hown2 hgr _ hat
    obtain ⟨A2, cd2, rfl, -⟩ := Lst.of_own hown2
    have hb2 : Blk w2 b 88 _ := (HB.out.alloc (.cells #[.int .u32 (v : Int)] 23)).grown (HO.out.alloc _) (by decide) hgr
    have hp2 := HP.out.data_app (v := v) _ hgr hBw (by rw [← HM.out]; exact hown2) hat
    have hx2 : Below B w w2 := ((Below.refl B w).alloc hBw _).grown hgr (by simp; omega) (fun k hk => (HO.out.lt k hk).1)
    obtain ⟨⟨d0, d1, d2, d3, d4, d5, d6⟩, hfz2, hlt2⟩ := seven hb2
    have g2 := hfz2 2
    have HB2 := Lib.hid hb2
    have HP2 := Lib.hid hp2
    have HX2 := Lib.hid hx2
    clear hb2 hp2 hx2 hfz2 hown2 hgr hat c0 c1 c2 c3 c4 c5 c6 HO HB HP f2
    go_wp2_with fail
    go_ret
    exact ⟨rfl, _, cv, iv, ov, ⟨blk_set HB2.out 2 _, hBb, HP2.out.keep hBb (blk_not HB2.out (by decide)) (blk_not HB2.out (by decide)) (blk_not HB2.out (by decide)) (Keep.set 2 _)⟩, HX2.out.setCell hBb _⟩
  · rw [if_neg h256]
    have hdt : decide ((256 : Int) ≤ (m : Int)) = true := decide_eq_true (by omega)
    clear hb hp hfz hl hm
    go_enter Tryz.func77, Tryz.ntmps77
    go_wp2_with fail
    go_ret
    exact ⟨rfl, M, _, cv, iv, ov, H.out, rfl, Below.refl B w⟩

theorem RefM.len {w : World} {B b bm : Nat} {M : MS} {dv cv iv ov : Value} (h : RefM w B b bm M dv cv iv ov) : ∃ A c, dv = .slice A M.data.length c ∧ M.data.length ≤ c ∧ c ≤ 9223372036854775807 := by
  obtain ⟨A, c, rfl, hl⟩ := Lst.of_own h.2.2.data
  have := hl.max
  unfold maxLen at this
  exact ⟨A, c, rfl, hl.room, this⟩
theorem spost_end {w : World} {B b bm : Nat} {M : MS} {dv cv iv ov : Value} (h : RefM w B b bm M dv cv iv ov) : SPost B b bm M (some M) w (.returned (.bool true)) w := ⟨rfl, dv, cv, iv, ov, h, Below.refl _ _⟩
theorem spost_no {w w' : World} {B b bm : Nat} {M M' : MS} {dv cv iv ov : Value} (h : RefM w' B b bm M' dv cv iv ov) (ho : M'.out = M.out) (hx : Below B w w') : SPost B b bm M none w (.returned (.bool false)) w' := ⟨rfl, M', dv, cv, iv, ov, h, ho, hx⟩
set_option maxRecDepth 100000 in
theorem step_blank (B b bm : Nat) (M : MS) (dv cv iv ov : Value) (w : World) (h : RefM w B b bm M dv cv iv ov) (c : Nat) (hc : c = 32 ∨ c = 10) :
    Calls Tryz.prog 44 #[.pointer (some ⟨b, 0, none⟩), .int .u32 (c : Int)] w (SPost B b bm M (stepS M c) w) := by
  obtain ⟨⟨c0, c1, c2, c3, c4, c5, c6⟩, hfz, hlt⟩ := seven h.1
  obtain ⟨A, cd, rfl, hr, hm⟩ := h.len
  rcases hc with rfl | rfl
  · rw [show stepS M 32 = some M from rfl]
    have H := Lib.hid (spost_end h)
    clear h hfz
    go_enter Tryz.func44, Tryz.ntmps44
    go_wp2_with fail
    go_ret
    exact H.out
  · rw [show stepS M 10 = some M from rfl]
    have H := Lib.hid (spost_end h)
    clear h hfz
    go_enter Tryz.func44, Tryz.ntmps44
    go_wp2_with fail
    go_ret
    exact H.out
theorem ref_data_upd {w : World} {B b bm g i : Nat} {M M' : MS} {dv cv iv ov v : Value} (h : RefM w B b bm M dv cv iv ov) (hp : Parts (w.setCell ⟨g, i, none⟩ v) B bm M' dv cv iv ov) (hgb : b ≠ g) (h1 : M'.pc = M.pc) (h2 : M'.digit = M.digit) :
    RefM (w.setCell ⟨g, i, none⟩ v) B b bm M' dv cv iv ov := by
  refine ⟨?_, h.2.1, hp⟩
  show (World.heap _)[b]? = _
  rw [Below.heap_setCell _ _ _ _ hgb, h1, h2]
  exact h.1
set_option maxRecDepth 100000 in
set_option maxHeartbeats 6400000 in
theorem step_digit (B b bm : Nat) (M : MS) (dv cv iv ov : Value) (w : World) (h : RefM w B b bm M dv cv iv ov) (ok : M.Ok) (hBw : B ≤ w.heap.size) (c : Nat) (h48 : 48 ≤ c) (h57 : c ≤ 57) :
    Calls Tryz.prog 44 #[.pointer (some ⟨b, 0, none⟩), .int .u32 (c : Int)] w (SPost B b bm M (stepS M c) w) := by
  obtain ⟨⟨c0, c1, c2, c3, c4, c5, c6⟩, hfz, hlt⟩ := seven h.1
  have hd := ok.dlen
  have hs : stepS M c = (if M.digit = true then some { M with data := M.data.dropLast ++ [(M.data.getLast?.getD 0 * 10 + (c - 48)) % 4294967296] } else pushS (c - 48) M) := by
    unfold stepS
    rw [if_pos (show isDig c = true by unfold isDig; rw [decide_eq_true h48, decide_eq_true h57]; rfl)]
  rw [hs]
  have e1 : decide ((48 : Int) ≤ (c : Int)) = true := decide_eq_true (by omega)
  have e2 : decide ((c : Int) ≤ 57) = true := decide_eq_true (by omega)
  cases hg : M.digit with
  | false =>
    rw [if_neg (by decide)]
    rw [hg] at c6
    obtain ⟨d, hdd⟩ : ∃ d, d = c - 48 := ⟨_, rfl⟩
    have hsub : (c : Int) - 48 = (d : Int) := by omega
    have HP := Lib.hid (rpush_any B b bm M dv cv iv ov (c - 48) w h hd hBw)
    rw [← hdd] at HP ⊢
    obtain ⟨A, cd, rfl, hr, hm⟩ := h.len
    have hd1 : d ≤ 9 := by omega
    generalize M.data.length = m at *
    clear h hs hfz hg hdd
    go_enter Tryz.func44, Tryz.ntmps44
    go_wp2_with fail
    refine HP.out.mono ?_
    intro e w1 hpost
    cases hp : pushS d M with
    | some M' =>
      rw [hp] at hpost
      obtain ⟨rfl, hh⟩ := hpost
      have HH := Lib.hid hh
      have HPE := Lib.hid hp
      clear hh hp
      go_wp2_with fail
      go_ret
      rw [HPE.out]
      exact ⟨rfl, HH.out⟩
    | none =>
      rw [hp] at hpost
      obtain ⟨rfl, hh⟩ := hpost
      have HH := Lib.hid hh
      have HPE := Lib.hid hp
      clear hh hp
      go_wp2_with fail
      go_ret
      rw [HPE.out]
      exact ⟨rfl, HH.out⟩
  | true =>
    rw [if_pos rfl]
    rcases list_end M.data with h0 | ⟨l, x, h0⟩
    · exact absurd h0 (ok.dig hg)
    · have hx : x < 4294967296 := ok.data x (by rw [h0]; simp)
      have he : M.data.dropLast ++ [(M.data.getLast?.getD 0 * 10 + (c - 48)) % 4294967296] = l ++ [(x * 10 + (c - 48)) % 4294967296] := by rw [h0, List.dropLast_concat, List.getLast?_concat]; rfl
      rw [he]
      obtain ⟨y, hy⟩ : ∃ y, y = (x * 10 + (c - 48)) % 4294967296 := ⟨_, rfl⟩
      rw [← hy]
      obtain ⟨g, cap, rfl, k1, k2, k3, k4, k5, k6, -, k8, k9⟩ := h.drew.2.2.data_set (y := y) h0
      unfold maxLen at k2
      rw [hg] at c6
      have hgb : b ≠ g := fun e => absurd (k9 _ _ _ (e ▸ (show w.drew.heap[b]? = _ from h.1))) (by decide)
      have hex : ((((x : Int) * 10) % 4294967296 + (c : Int)) % 4294967296 - 48) % 4294967296 = (y : Int) := by omega
      have H := Lib.hid (ref_data_upd h.drew (k8.same (M' := { M with data := l ++ [y], digit := true }) rfl rfl rfl rfl rfl) hgb rfl hg.symm)
      obtain ⟨m, hm⟩ : ∃ m, m = l.length := ⟨_, rfl⟩
      rw [← hm] at c2 k1 k3 k4 H
      have hbg := h.2.1
      rw [h0, List.length_append] at hd
      have k3' : w.cell? ⟨g, m, none⟩ = some (.int .u32 (x : Int)) := k3
      have k4' : w.frozen? ⟨g, m, none⟩ = false := k4
      clear h hs hfz k8 k9 he hy h0 hm
      go_enter Tryz.func44, Tryz.ntmps44
      go_wp2_with fail
      go_region
      go_wp2_with fail
      go_ret
      have key : ∀ E : Int, E = (y : Int) → RefM ((w.setCell ⟨g, m, none⟩ (.int .u32 E)).drew) B b bm { M with data := l ++ [y], digit := true } (.slice (some ⟨g, 0, none⟩) (m + 1) cap) cv iv ov := by rintro _ rfl; exact H.out
      exact ⟨rfl, _, cv, iv, ov, key _ (by omega), ((Below.refl B w).setCell k5 _).drew⟩
end Go.Proofs.YtjmglbppmolipaaGreatDoor
namespace Go.Proofs.YtjmglbppmolipaaGreatDoor
open Go.RowKit
open Go.Lib hiding intOf
set_option linter.unusedVariables false

/-- the two topmost values -/
theorem Parts.two {w : World} {B bm : Nat} {M : MS} {dv cv iv ov : Value} {l : List Nat} {v a : Nat} (h : Parts w B bm M dv cv iv ov) (hd : M.data = l ++ [v] ++ [a]) :
    ∃ g cap, dv = .slice (some ⟨g, 0, none⟩) (l.length + 2) cap ∧ l.length + 2 ≤ cap ∧ cap ≤ 9223372036854775807 ∧ w.cell? ⟨g, l.length + 1, none⟩ = some (.int .u32 (a : Int)) ∧ w.cell? ⟨g, l.length, none⟩ = some (.int .u32 (v : Int)) ∧ B ≤ g ∧ Parts w B bm { M with data := l } (.slice (some ⟨g, 0, none⟩) l.length cap) cv iv ov ∧ ∀ cs T fz, w.heap[g]? = some (.cells cs T fz) → T = 23 := by
  obtain ⟨g, cap, rfl, k1, k2, k3, k4, k5, k6, k7, -, k9⟩ := h.data_set (y := 0) hd
  obtain ⟨g', cap', e, q1, q2, q3, q4, q5, q6, q7, -, -⟩ := k7.data_set (l := l) (x := v) (y := 0) rfl
  have e1 : g' = g ∧ cap' = cap := by
    injection e with e1 e2 e3
    injection e1 with e1
    injection e1 with e1
    exact ⟨e1.symm, e3.symm⟩
  obtain ⟨rfl, rfl⟩ := e1
  rw [List.length_append, List.length_singleton] at k1 k3
  unfold maxLen at k2
  refine ⟨g', cap', by rw [List.length_append, List.length_singleton], by omega, k2, k3, q3, k5, q7, k9⟩
/-- fewer than two values -/
theorem less_two {M : MS} (h : M.data = [] ∨ ∃ a, M.data = [a]) : M.data.length < 2 := by
  rcases h with h | ⟨a, h⟩ <;> rw [h] <;> simp
theorem two_ends {M : MS} : (M.data = [] ∨ ∃ a, M.data = [a]) ∨ ∃ l v a, M.data = l ++ [v] ++ [a] := by
  rcases list_end M.data with h | ⟨l, a, h⟩
  · exact .inl (.inl h)
  · rcases list_end l with h2 | ⟨l2, v, h2⟩
    · exact .inl (.inr ⟨a, by rw [h, h2]; rfl⟩)
    · exact .inr ⟨l2, v, a, by rw [h, h2]⟩
set_option maxRecDepth 100000 in
set_option maxHeartbeats 3200000 in
theorem step_jump (B b bm : Nat) (M : MS) (dv cv iv ov : Value) (w : World) (h : RefM w B b bm M dv cv iv ov) (ok : M.Ok) :
    Calls Tryz.prog 44 #[.pointer (some ⟨b, 0, none⟩), .int .u32 63] w (SPost B b bm M (stepS M 63) w) := by
  have hs : stepS M 63 = (popS M).bind fun (t, m1) => (popS m1).bind fun (v, m2) => some (if v = 0 then { m2 with pc := t } else m2) := rfl
  obtain ⟨⟨c0, c1, c2, c3, c4, c5, c6⟩, hfz, hlt⟩ := seven h.1
  have f1 := hfz 1
  have f2 := hfz 2
  have hd := ok.dlen
  rcases two_ends (M := M) with h0 | ⟨l, v, a, h0⟩
  · have hn : stepS M 63 = none := by
      rw [hs]
      rcases h0 with h0 | ⟨a, h0⟩
      · rw [popS_nil h0]; rfl
      · rw [popS_snoc (l := []) (v := a) h0]
        simp only [Option.bind_some]
        rw [popS_nil (m := { M with data := [] }) rfl]; rfl
    have hl2 := less_two h0
    rw [hn]
    have H := Lib.hid h
    obtain ⟨A, cd, rfl, hr, hm⟩ := h.len
    generalize M.data.length = m at *
    have hdt : decide ((m : Int) < 2) = true := decide_eq_true (by omega)
    clear h hs hn h0 hfz
    go_enter Tryz.func44, Tryz.ntmps44
    go_wp2_with fail
    go_ret
    exact ⟨rfl, M, _, cv, iv, ov, H.out, rfl, Below.refl B w⟩
  · have hn : stepS M 63 = some (if v = 0 then { M with data := l, pc := a } else { M with data := l }) := by
      rw [hs, popS_snoc h0]
      simp only [Option.bind_some]
      rw [popS_snoc (m := { M with data := l ++ [v] }) rfl]
      rfl
    rw [hn]
    obtain ⟨g, cap, rfl, k1, k2, k3, k4, k5, k6, k7⟩ := h.2.2.two h0
    have H := Lib.hid h
    have HP := Lib.hid k6
    have hl254 : l.length ≤ 254 := by rw [h0] at hd; simp at hd; omega
    have hgb : g ≠ b := fun e => by
      subst e
      exact absurd (k7 _ _ _ h.1) (by decide)
    generalize l.length = m at *
    have hdt : decide ((m : Int) + 2 < 2) = false := decide_eq_false (by omega)
    by_cases hv : v = 0
    · rw [if_pos hv]
      have hve : ((v : Int) == 0) = true := by simp [hv]
      have k3' : (w.setCell ⟨b, 1, none⟩ (.int .u32 (a : Int))).cell? ⟨g, m + 1, none⟩ = some (.int .u32 (a : Int)) := by
        have := k3
        unfold World.cell? at this ⊢
        rw [Below.heap_setCell _ _ _ _ hgb]
        exact this
      have HF : Hid (RefM ((w.setCell ⟨b, 1, none⟩ (.int .u32 (a : Int))).setCell ⟨b, 2, none⟩ (.slice (some ⟨g, 0, none⟩) m cap)) B b bm { M with data := l, pc := a } (.slice (some ⟨g, 0, none⟩) m cap) cv iv ov) := by
        have h1 := H.out.cell (M' := { M with pc := a }) 1 (.int .u32 (a : Int)) rfl (H.out.2.2.same rfl rfl rfl rfl rfl)
        have hB := H.out.2.1
        have h2 := HP.out.keep hB (blk_not H.out.1 (by decide)) (blk_not H.out.1 (by decide)) (blk_not H.out.1 (by decide)) (Keep.set 1 (.int .u32 (a : Int)))
        exact h1.cell (M' := { M with data := l, pc := a }) 2 _ rfl (h2.same rfl rfl rfl rfl rfl)
      have hbB := h.2.1
      clear h hs hn h0 hfz hv k6 k7
      go_enter Tryz.func44, Tryz.ntmps44
      go_wp2_with fail
      go_ret
      exact ⟨rfl, _, cv, iv, ov, HF.out, ((Below.refl B w).setCell hbB _).setCell hbB _⟩
    · rw [if_neg hv]
      have hve : ((v : Int) == 0) = false := by simp [hv]
      have HF : Hid (RefM (w.setCell ⟨b, 2, none⟩ (.slice (some ⟨g, 0, none⟩) m cap)) B b bm { M with data := l } (.slice (some ⟨g, 0, none⟩) m cap) cv iv ov) := H.out.cell (M' := { M with data := l }) 2 _ rfl HP.out
      have hbB := h.2.1
      clear h hs hn h0 hfz hv k6 k7
      go_enter Tryz.func44, Tryz.ntmps44
      go_wp2_with fail
      go_ret
      exact ⟨rfl, _, cv, iv, ov, HF.out, (Below.refl B w).setCell hbB _⟩
set_option maxRecDepth 100000 in
set_option maxHeartbeats 3200000 in
theorem step_fetch (B b bm : Nat) (M : MS) (dv cv iv ov : Value) (w : World) (h : RefM w B b bm M dv cv iv ov) (ok : M.Ok) :
    Calls Tryz.prog 44 #[.pointer (some ⟨b, 0, none⟩), .int .u32 64] w (SPost B b bm M (stepS M 64) w) := by
  have hs : stepS M 64 = (addrS M).bind fun (a, m1) => pushS (m1.mem a) m1 := rfl
  obtain ⟨⟨c0, c1, c2, c3, c4, c5, c6⟩, hfz, hlt⟩ := seven h.1
  have hd := ok.dlen
  rcases list_end M.data with h0 | ⟨l, a, h0⟩
  · have hn : stepS M 64 = none := by rw [hs]; unfold addrS; rw [popS_nil h0]; rfl
    rw [hn]
    have H := Lib.hid h
    obtain ⟨A, cd, rfl, hr, hm⟩ := h.len
    have hz : M.data.length = 0 := by rw [h0]; rfl
    rw [hz] at c2
    clear h hs hn h0 hfz hz hr hd
    go_enter Tryz.func44, Tryz.ntmps44
    go_wp2_with fail
    go_ret
    exact ⟨rfl, M, _, cv, iv, ov, H.out, rfl, Below.refl B w⟩
  · obtain ⟨g, cap, rfl, k1, k2, k3, k4, k5, k6, -, k8, k9⟩ := h.drew.2.2.data_set (y := M.mem a) h0
    unfold maxLen at k2
    have H := Lib.hid h
    have hgb : b ≠ g := fun e => by
      subst e
      exact absurd (k9 _ _ _ h.drew.1) (by decide)
    have hl254 : l.length ≤ 255 := by rw [h0] at hd; simp at hd; omega
    have k3' : w.cell? ⟨g, l.length, none⟩ = some (.int .u32 (a : Int)) := k3
    have k4' : w.frozen? ⟨g, l.length, none⟩ = false := k4
    by_cases ha : a < 262144
    · have hn : stepS M 64 = some { M with data := l ++ [M.mem a] } := by
        rw [hs]
        have hp : addrS M = some (a, { M with data := l }) := by unfold addrS; rw [popS_snoc h0]; simp only; rw [if_pos ha]
        rw [hp]
        show pushS (M.mem a) { M with data := l } = _
        unfold pushS
        rw [if_pos (by show l.length < 256; omega)]
      rw [hn]
      have HF := Lib.hid (ref_data_upd h.drew (k8.same (M' := { M with data := l ++ [M.mem a] }) rfl rfl rfl rfl rfl) hgb rfl rfl)
      have hmc := (h.2.2.mem.cell (i := a) ha).1
      generalize M.mem a = y at *
      have hai : (a : Int) < 262144 := by omega
      have hdt : decide ((262144 : Int) ≤ (a : Int)) = false := decide_eq_false (by omega)
      generalize l.length = m at *
      have hdt1 : decide ((m : Int) + 1 < 1) = false := decide_eq_false (by omega)
      clear h hs hn h0 hfz k8 k9 ha
      go_enter Tryz.func44, Tryz.ntmps44
      go_wp2_with fail
      go_region
      clear hai hdt
      go_wp2_with fail
      go_ret
      exact ⟨rfl, _, cv, iv, ov, HF.out, ((Below.refl B w).setCell k5 _).drew⟩
    · have hn : stepS M 64 = none := by
        rw [hs]
        have hp : addrS M = none := by unfold addrS; rw [popS_snoc h0]; simp only; rw [if_neg ha]
        rw [hp]; rfl
      rw [hn]
      have hdt : decide ((262144 : Int) ≤ (a : Int)) = true := decide_eq_true (by omega)
      generalize l.length = m at *
      clear h hs hn h0 hfz k8 k9
      go_enter Tryz.func44, Tryz.ntmps44
      go_wp2_with fail
      go_ret
      exact ⟨rfl, M, _, cv, iv, ov, H.out, rfl, Below.refl B w⟩
set_option maxRecDepth 100000 in
set_option maxHeartbeats 3200000 in
theorem step_store (B b bm : Nat) (M : MS) (dv cv iv ov : Value) (w : World) (h : RefM w B b bm M dv cv iv ov) (ok : M.Ok) :
    Calls Tryz.prog 44 #[.pointer (some ⟨b, 0, none⟩), .int .u32 33] w (SPost B b bm M (stepS M 33) w) := by
  have hs : stepS M 33 = (addrS M).bind fun (a, m1) => (popS m1).bind fun (v, m2) => some { m2 with mem := setM m2.mem a v } := rfl
  obtain ⟨⟨c0, c1, c2, c3, c4, c5, c6⟩, hfz, hlt⟩ := seven h.1
  have f2 := hfz 2
  have hd := ok.dlen
  rcases two_ends (M := M) with h0 | ⟨l, v, a, h0⟩
  · have hn : stepS M 33 = none := by
      rw [hs]
      rcases h0 with h0 | ⟨a, h0⟩
      · unfold addrS; rw [popS_nil h0]; rfl
      · unfold addrS
        rw [popS_snoc (l := []) (v := a) h0]
        simp only
        split
        · simp only [Option.bind_some]
          rw [popS_nil (m := { M with data := [] }) rfl]; rfl
        · rfl
    have hl2 := less_two h0
    rw [hn]
    have H := Lib.hid h
    obtain ⟨A, cd, rfl, hr, hm⟩ := h.len
    generalize M.data.length = m at *
    have hdt : decide ((m : Int) < 2) = true := decide_eq_true (by omega)
    clear h hs hn h0 hfz
    go_enter Tryz.func44, Tryz.ntmps44
    go_wp2_with fail
    go_ret
    exact ⟨rfl, M, _, cv, iv, ov, H.out, rfl, Below.refl B w⟩
  · obtain ⟨g, cap, rfl, k1, k2, k3, k4, k5, k6, k7⟩ := h.2.2.two h0
    have H := Lib.hid h
    have hl254 : l.length ≤ 254 := by rw [h0] at hd; simp at hd; omega
    have hdt2 : decide ((l.length : Int) + 2 < 2) = false := decide_eq_false (by omega)
    by_cases ha : a < 262144
    · have hn : stepS M 33 = some { M with data := l, mem := setM M.mem a v } := by
        rw [hs]
        have hp : addrS M = some (a, { M with data := l ++ [v] }) := by unfold addrS; rw [popS_snoc h0]; simp only; rw [if_pos ha]
        rw [hp]
        simp only [Option.bind_some]
        rw [popS_snoc (m := { M with data := l ++ [v] }) rfl]
        rfl
      rw [hn]
      obtain ⟨hmc, hmf⟩ := h.2.2.mem.cell (i := a) ha
      have hbm := h.2.2.hbm
      have hne : b ≠ bm := fun e => by
        obtain ⟨arr, m1, -⟩ := h.2.2.mem
        rw [← e] at m1
        exact blk_not h.1 (by decide) _ _ m1
      have HF : Hid (RefM ((w.setCell ⟨bm, a, none⟩ (.int .u32 (v : Int))).setCell ⟨b, 2, none⟩ (.slice (some ⟨g, 0, none⟩) l.length cap)) B b bm { M with data := l, mem := setM M.mem a v } (.slice (some ⟨g, 0, none⟩) l.length cap) cv iv ov) := by
        have hb2 : Blk (w.setCell ⟨bm, a, none⟩ (.int .u32 (v : Int))) b 88 [.slice (some ⟨bm, 0, none⟩) 262144 262144, .int .u32 (M.pc : Int), .slice (some ⟨g, 0, none⟩) (l.length + 2) cap, cv, iv, ov, .bool M.digit] := by
          show (World.heap _)[b]? = _
          rw [Below.heap_setCell _ _ _ _ hne]
          exact h.1
        have hp2 := k6.mem_set a v
        have hr2 : RefM (w.setCell ⟨bm, a, none⟩ (.int .u32 (v : Int))) B b bm { M with mem := setM M.mem a v } (.slice (some ⟨g, 0, none⟩) (l.length + 2) cap) cv iv ov := ⟨hb2, h.2.1, h.2.2.mem_set a v⟩
        exact hr2.cell (M' := { M with data := l, mem := setM M.mem a v }) 2 _ rfl (hp2.same rfl rfl rfl rfl rfl)
      have hbB := h.2.1
      have hai : (a : Int) < 262144 := by omega
      have hdt : decide ((262144 : Int) ≤ (a : Int)) = false := decide_eq_false (by omega)
      have hgb : g ≠ bm := fun e => k6.dm (by rw [e]; rfl)
      generalize l.length = m at *
      generalize M.mem a = y at *
      clear h hs hn h0 hfz k6 k7 ha
      go_enter Tryz.func44, Tryz.ntmps44
      go_wp2_with fail
      go_region
      clear hai hdt
      go_wp2_with fail
      go_ret
      exact ⟨rfl, _, cv, iv, ov, HF.out.drew, (((Below.refl B w).setCell hbm _).setCell hbB _).drew⟩
    · have hn : stepS M 33 = none := by
        rw [hs]
        have hp : addrS M = none := by unfold addrS; rw [popS_snoc h0]; simp only; rw [if_neg ha]
        rw [hp]; rfl
      rw [hn]
      have hdt : decide ((262144 : Int) ≤ (a : Int)) = true := decide_eq_true (by omega)
      generalize l.length = m at *
      clear h hs hn h0 hfz k6 k7
      go_enter Tryz.func44, Tryz.ntmps44
      go_wp2_with fail
      go_ret
      exact ⟨rfl, M, _, cv, iv, ov, H.out, rfl, Below.refl B w⟩
end Go.Proofs.YtjmglbppmolipaaGreatDoor
namespace Go.Proofs.YtjmglbppmolipaaGreatDoor
open Go.RowKit
open Go.Lib hiding intOf
set_option linter.unusedVariables false

set_option maxRecDepth 100000 in
set_option maxHeartbeats 3200000 in
theorem step_ret (B b bm : Nat) (M : MS) (dv cv iv ov : Value) (w : World) (h : RefM w B b bm M dv cv iv ov) (ok : M.Ok) :
    Calls Tryz.prog 44 #[.pointer (some ⟨b, 0, none⟩), .int .u32 59] w (SPost B b bm M (stepS M 59) w) := by
  have hs : stepS M 59 = (match M.calls.getLast? with | none => none | some p => some { M with pc := p, calls := M.calls.dropLast }) := rfl
  obtain ⟨⟨c0, c1, c2, c3, c4, c5, c6⟩, hfz, hlt⟩ := seven h.1
  have f1 := hfz 1
  have f3 := hfz 3
  obtain ⟨A, cd, hdv, hrd, hmd⟩ := h.len
  have hd := ok.dlen
  have hc6 := ok.clen
  rw [hs]
  rcases list_end M.calls with h0 | ⟨l, t, h0⟩
  · obtain ⟨A2, cc, hcv, hl⟩ := Lst.of_own h.2.2.calls
    rw [h0] at hcv ⊢
    have H := Lib.hid h
    subst hdv
    subst hcv
    simp only [List.length_nil] at c3
    clear h hs hfz hl h0
    go_enter Tryz.func44, Tryz.ntmps44
    go_wp2_with fail
    go_ret
    exact ⟨rfl, M, _, _, iv, ov, H.out, rfl, Below.refl B w⟩
  · obtain ⟨g, cap, hcv, k1, k2, k3, k4, k5, k6, k7⟩ := h.2.2.calls_pop h0
    have hr : (match M.calls.getLast? with | none => none | some p => some { M with pc := p, calls := M.calls.dropLast }) = some { M with pc := t, calls := l } := by rw [h0]; simp
    rw [hr]
    unfold maxLen at k2
    have hl6 : l.length ≤ 64 := by rw [h0, List.length_append] at hc6; omega
    have hgb : g ≠ b := fun e => own_type h.2.2.calls (blk_not h.1 (by decide)) (by rw [hcv, e]; rfl)
    have HF : Hid (RefM ((w.setCell ⟨b, 1, none⟩ (.int .u32 (t : Int))).setCell ⟨b, 3, none⟩ (.slice (some ⟨g, 0, none⟩) l.length cap)) B b bm { M with pc := t, calls := l } dv (.slice (some ⟨g, 0, none⟩) l.length cap) iv ov) := by
      have h1 := h.cell (M' := { M with pc := t }) 1 (.int .u32 (t : Int)) rfl (h.2.2.same rfl rfl rfl rfl rfl)
      have h2 := k7.keep h.2.1 (blk_not h.1 (by decide)) (blk_not h.1 (by decide)) (blk_not h.1 (by decide)) (Keep.set 1 (.int .u32 (t : Int)))
      exact h1.cell (M' := { M with pc := t, calls := l }) 3 _ rfl (h2.same rfl rfl rfl rfl rfl)
    have hbB := h.2.1
    have k3' : (w.setCell ⟨b, 1, none⟩ (.int .u32 (t : Int))).cell? ⟨g, l.length, none⟩ = some (.int .u32 (t : Int)) := by
      have := k3
      unfold World.cell? at this ⊢
      rw [Below.heap_setCell _ _ _ _ hgb]
      exact this
    subst hdv
    subst hcv
    generalize l.length = m at *
    generalize M.data.length = md at *
    have hmt : decide ((m : Int) + 1 < 1) = false := decide_eq_false (by omega)
    clear h hs hr h0 hfz k7
    go_enter Tryz.func44, Tryz.ntmps44
    go_wp2_with fail
    go_ret
    exact ⟨rfl, _, _, iv, ov, HF.out, ((Below.refl B w).setCell hbB _).setCell hbB _⟩
set_option maxRecDepth 100000 in
set_option maxHeartbeats 3200000 in
theorem step_other (B b bm : Nat) (M : MS) (dv cv iv ov : Value) (w : World) (h : RefM w B b bm M dv cv iv ov) (ok : M.Ok) (c : Nat) (hc : c < 4294967296) (h1 : isDig c = false) (h2 : ¬ (c = 32 ∨ c = 10)) (h3 : isBin c = false) (h4 : c ≠ 64) (h5 : c ≠ 33) (h6 : c ≠ 63) (h7 : c ≠ 58) (h8 : c ≠ 59) (h9 : c ≠ 44) (h10 : c ≠ 46) :
    Calls Tryz.prog 44 #[.pointer (some ⟨b, 0, none⟩), .int .u32 (c : Int)] w (SPost B b bm M none w) := by
  obtain ⟨⟨c0, c1, c2, c3, c4, c5, c6⟩, hfz, hlt⟩ := seven h.1
  have H := Lib.hid h
  obtain ⟨A, cd, rfl, hr, hm⟩ := h.len
  have hd := ok.dlen
  generalize M.data.length = m at *
  have e : ∀ k : Nat, c ≠ k → ((c : Int) == (k : Int)) = false := fun k hk => by simp; omega
  have hb : c ≠ 43 ∧ c ≠ 45 ∧ c ≠ 42 ∧ c ≠ 47 ∧ c ≠ 37 ∧ c ≠ 94 ∧ c ≠ 60 := by unfold isBin at h3; simpa using h3
  have q1 : ((c : Int) == 32) = false := e 32 (fun h => h2 (.inl h))
  have q2 : ((c : Int) == 10) = false := e 10 (fun h => h2 (.inr h))
  have q3 : ((c : Int) == 43) = false := e 43 hb.1
  have q4 : ((c : Int) == 45) = false := e 45 hb.2.1
  have q5 : ((c : Int) == 42) = false := e 42 hb.2.2.1
  have q6 : ((c : Int) == 47) = false := e 47 hb.2.2.2.1
  have q7 : ((c : Int) == 37) = false := e 37 hb.2.2.2.2.1
  have q8 : ((c : Int) == 94) = false := e 94 hb.2.2.2.2.2.1
  have q9 : ((c : Int) == 60) = false := e 60 hb.2.2.2.2.2.2
  have p4 : ((c : Int) == 64) = false := e 64 h4
  have p5 : ((c : Int) == 33) = false := e 33 h5
  have p6 : ((c : Int) == 63) = false := e 63 h6
  have p7 : ((c : Int) == 58) = false := e 58 h7
  have p8 : ((c : Int) == 59) = false := e 59 h8
  have p9 : ((c : Int) == 44) = false := e 44 h9
  have p10 : ((c : Int) == 46) = false := e 46 h10
  have hg : c < 48 ∨ (48 ≤ c ∧ 57 < c) := by unfold isDig at h1; simp at h1; omega
  clear h h1 h2 h3 h4 h5 h6 h7 h8 h9 h10 e hb hfz
  rcases hg with hg | ⟨hg1, hg2⟩
  · have r1 : decide ((48 : Int) ≤ (c : Int)) = false := decide_eq_false (by omega)
    clear hg
    go_enter Tryz.func44, Tryz.ntmps44
    go_wp2_with fail
    go_ret
    exact ⟨rfl, M, _, cv, iv, ov, H.out, rfl, Below.refl B w⟩
  · have r1 : decide ((48 : Int) ≤ (c : Int)) = true := decide_eq_true (by omega)
    have r2 : decide ((c : Int) ≤ 57) = false := decide_eq_false (by omega)
    clear hg1 hg2
    go_enter Tryz.func44, Tryz.ntmps44
    go_wp2_with fail
    go_ret
    exact ⟨rfl, M, _, cv, iv, ov, H.out, rfl, Below.refl B w⟩
set_option maxRecDepth 100000 in
set_option maxHeartbeats 3200000 in
theorem step_in (B b bm : Nat) (M : MS) (dv cv iv ov : Value) (w : World) (h : RefM w B b bm M dv cv iv ov) (ok : M.Ok) (hBw : B ≤ w.heap.size) :
    Calls Tryz.prog 44 #[.pointer (some ⟨b, 0, none⟩), .int .u32 44] w (SPost B b bm M (stepS M 44) w) := by
  have hs : stepS M 44 = (match M.input with | [] => pushS 4294967295 M | x :: l => pushS x { M with input := l }) := rfl
  rw [hs]
  obtain ⟨⟨c0, c1, c2, c3, c4, c5, c6⟩, hfz, hlt⟩ := seven h.1
  have f4 := hfz 4
  obtain ⟨A, cd, hdv, hrd, hmd⟩ := h.len
  have hd := ok.dlen
  cases hi : M.input with
  | nil =>
    have HP := Lib.hid (rpush_any B b bm M dv cv iv ov 4294967295 w h hd hBw)
    obtain ⟨A2, n2, cc, hiv, hl, hA⟩ := h.2.2.inp
    rw [hi] at hl
    have hn2 : n2 = 0 := hl.len
    subst hn2
    subst hiv
    subst hdv
    generalize M.data.length = md at *
    clear h hs hfz hl hA hi
    go_enter Tryz.func44, Tryz.ntmps44
    go_wp2_with fail
    refine HP.out.mono ?_
    intro e w1 hpost
    show _
    cases hp : pushS 4294967295 M with
    | some M' =>
      rw [hp] at hpost
      obtain ⟨rfl, hh⟩ := hpost
      have HH := Lib.hid hh
      have HPE := Lib.hid hp
      clear hh hp
      go_wp2_with fail
      go_ret
      simp only [HPE.out]
      exact ⟨rfl, HH.out⟩
    | none =>
      rw [hp] at hpost
      obtain ⟨rfl, hh⟩ := hpost
      have HH := Lib.hid hh
      have HPE := Lib.hid hp
      clear hh hp
      go_wp2_with fail
      go_ret
      simp only [HPE.out]
      exact ⟨rfl, HH.out⟩
  | cons x l =>
    obtain ⟨q, off, cc, hiv, k1, k2, k3, k4, k5, off', k6, k7⟩ := h.2.2.input_tail hi
    unfold maxLen at k2
    have HP := Lib.hid (rpush_any B b bm M dv cv iv ov x w h hd hBw)
    have hps : pushS x { M with input := l } = (pushS x M).map fun m => { m with input := l } := by
      unfold pushS
      dsimp only
      split <;> rfl
    have hil := ok.ilen
    rw [hi] at hil
    simp only [List.length_cons] at hil
    have hli : l.length ≤ 1000000 := by omega
    have HI := Lib.hid hi
    rw [show (match x :: l with | [] => pushS 4294967295 M | y :: z => pushS y { M with input := z }) = pushS x { M with input := l } from rfl, hps]
    subst hdv
    subst hiv
    generalize hml : l.length = m at *
    generalize M.data.length = md at *
    have hcne : ((m : Int) + 1 == 0) = false := by simp; omega
    have hq : ∀ W, Below B w W → W.cell? ⟨q, off, none⟩ = some (.int .u32 (x : Int)) := fun W hW => (hW.cell (p := ⟨q, off, none⟩) k4).trans k3
    have HQ := Lib.hid hq
    cases hp : pushS x M with
    | none =>
      rw [hp] at HP
      simp only [Option.map_none]
      clear h hs hfz hi hps hp k7 hq
      go_enter Tryz.func44, Tryz.ntmps44
      go_wp2_with fail
      refine HP.out.mono ?_
      rintro e w1 ⟨rfl, hh⟩
      have HH := Lib.hid hh
      clear hh
      go_wp2_with fail
      go_ret
      exact ⟨rfl, HH.out⟩
    | some M' =>
      rw [hp] at HP
      simp only [Option.map_some]
      have hMi : M'.input = x :: l := by
        unfold pushS at hp
        split at hp
        · cases hp; exact HI.out
        · cases hp
      have HMI := Lib.hid hMi
      clear h hs hfz hi hps hp k7 hq hMi
      go_enter Tryz.func44, Tryz.ntmps44
      go_wp2_with fail
      refine HP.out.mono ?_
      rintro e w1 ⟨rfl, dv1, cv1, iv1, ov1, h1, hb1⟩
      obtain ⟨⟨d0, d1, d2, d3, d4, d5, d6⟩, hfz1, hlt1⟩ := seven h1.1
      have g4 := hfz1 4
      obtain ⟨q2, off2, cc2, rfl, r1, r2, r3, r4, r5, off3, r6, r7⟩ := h1.2.2.input_tail HMI.out
      unfold maxLen at r2
      rw [hml] at r1 r7 d4
      have H1 := Lib.hid h1
      have R7 := Lib.hid r7
      clear h1 hfz1 r7 c0 c1 c2 c3 c4 c5 c6 f4
      have hbB := H1.out.2.1
      rcases r6 with ⟨hcc, rfl⟩ | ⟨hcc, rfl⟩
      · subst hcc
        obtain rfl : m = 0 := by omega
        have HF : Hid (RefM (w1.setCell ⟨b, 4, none⟩ (.slice (some ⟨q2, off3, none⟩) 0 0)) B b bm { M' with input := l } dv1 cv1 (.slice (some ⟨q2, off3, none⟩) 0 0) ov1) := H1.out.cell (M' := { M' with input := l }) 4 _ rfl R7.out
        clear H1 R7
        go_wp2_with fail
        go_ret
        exact ⟨rfl, _, _, _, _, HF.out, hb1.setCell hbB _⟩
      · have HF : Hid (RefM (w1.setCell ⟨b, 4, none⟩ (.slice (some ⟨q2, off2 + 1, none⟩) m (cc2 - 1))) B b bm { M' with input := l } dv1 cv1 (.slice (some ⟨q2, off2 + 1, none⟩) m (cc2 - 1)) ov1) := H1.out.cell (M' := { M' with input := l }) 4 _ rfl R7.out
        have hcc3 : ¬ cc2 = 1 := by omega
        have hm1 : m ≤ 1000000 := hli
        clear H1 R7
        go_wp2_with fail
        go_ret
        exact ⟨rfl, _, _, _, _, HF.out, hb1.setCell hbB _⟩
theorem RefM.top {w : World} {B b bm g n cap : Nat} {M : MS} {cv iv ov : Value} {l : List Nat} {t : Nat} (h : RefM w B b bm M (.slice (some ⟨g, 0, none⟩) n cap) cv iv ov) (h0 : M.data = l ++ [t]) :
    w.cell? ⟨g, l.length, none⟩ = some (.int .u32 (t : Int)) ∧ Parts w B bm { M with data := l } (.slice (some ⟨g, 0, none⟩) l.length cap) cv iv ov := by
  obtain ⟨g', cap', e, k1, k2, k3, k4, k5, k6, k7, -, -⟩ := h.2.2.data_set (y := 0) h0
  have e1 : g' = g ∧ cap' = cap := by
    injection e with e1 e2 e3
    injection e1 with e1
    injection e1 with e1
    exact ⟨e1.symm, e3.symm⟩
  obtain ⟨rfl, rfl⟩ := e1
  exact ⟨k3, k7⟩
theorem ref_call_push {w1 w2 : World} {B b bm : Nat} {M : MS} {dv cv cv' iv ov : Value} {v : Nat} (h : RefM w1 B b bm M dv cv iv ov) (o : Obj) (hgr : (w1.alloc o).drew.grownBy w2 cv.ownBlock) (hBw : B ≤ w1.heap.size)
    (hown : w2.ownsRow B 23 1 cv' (M.calls.length + 1) (u32V M.calls ++ [.int .u32 (v : Int)])) (hat : cv'.ownBlock = cv.ownBlock ∨ cv'.ownBlock = some (w1.heap.size + 1))
    (hb2 : Blk w2 b 88 [.slice (some ⟨bm, 0, none⟩) 262144 262144, .int .u32 (M.pc : Int), dv, cv, iv, ov, .bool M.digit]) :
    RefM (w2.setCell ⟨b, 3, none⟩ cv') B b bm { M with calls := M.calls ++ [v] } dv cv' iv ov ∧ Below B w1 (w2.setCell ⟨b, 3, none⟩ cv') := by
  have hg : (w1.alloc o).grownBy w2 cv.ownBlock := ⟨hgr.os, hgr.tape, hgr.output, hgr.size, hgr.block⟩
  have hp2 := h.2.2.calls_app (v := v) o hg hBw hown hat
  have hx2 : Below B w1 w2 := ((Below.refl B w1).alloc hBw _).grown hg (by simp; omega) (fun k hk => (own_lt h.2.2.calls hk).1)
  refine ⟨⟨?_, h.2.1, hp2.keep h.2.1 (blk_not hb2 (by decide)) (blk_not hb2 (by decide)) (blk_not hb2 (by decide)) (Keep.set 3 _)⟩, hx2.setCell h.2.1 _⟩
  exact blk_set hb2 3 cv'
set_option maxRecDepth 100000 in
set_option maxHeartbeats 3200000 in
theorem step_call (B b bm : Nat) (M : MS) (dv cv iv ov : Value) (w : World) (h : RefM w B b bm M dv cv iv ov) (ok : M.Ok) (hBw : B ≤ w.heap.size) :
    Calls Tryz.prog 44 #[.pointer (some ⟨b, 0, none⟩), .int .u32 58] w (SPost B b bm M (stepS M 58) w) := by
  have hs : stepS M 58 = (popS M).bind fun (t, m1) => if m1.calls.length < 64 then some { m1 with calls := m1.calls ++ [m1.pc], pc := t } else none := rfl
  rw [hs]
  obtain ⟨⟨c0, c1, c2, c3, c4, c5, c6⟩, hfz, hlt⟩ := seven h.1
  have hd := ok.dlen
  obtain ⟨A, cc, rfl, hl⟩ := Lst.of_own h.2.2.calls
  have hrm := hl.room
  have hmx := hl.max
  unfold maxLen at hmx
  obtain ⟨m, hm⟩ : ∃ m, m = M.calls.length := ⟨_, rfl⟩
  have HM := Lib.hid hm
  have hc64 := ok.clen
  rw [← hm] at hrm c3 hc64 h
  clear hl
  rcases list_end M.data with h0 | ⟨l, t, h0⟩
  · rw [popS_nil h0]
    have H := Lib.hid h
    obtain ⟨A2, cd, rfl, hr, hmd⟩ := h.len
    have hz : M.data.length = 0 := by rw [h0]; rfl
    rw [hz] at c2
    clear h hs h0 hfz hz hr hd hm
    go_enter Tryz.func44, Tryz.ntmps44
    go_wp2_with fail
    go_ret
    exact ⟨rfl, M, _, _, iv, ov, H.out, rfl, Below.refl B w⟩
  rw [popS_snoc h0]
  simp only [Option.bind_some]
  rw [h0, List.length_append, List.length_singleton] at hd
  obtain ⟨g, cap, rfl, k1, k2, -, -, k5, -, -, -, -⟩ := h.2.2.data_set (y := 0) h0
  unfold maxLen at k2
  have H := Lib.hid h
  have hH0 := Lib.hid h0
  obtain ⟨n, hn⟩ : ∃ n, n = l.length := ⟨_, rfl⟩
  have HN := Lib.hid hn
  rw [← hn] at c2 k1 hd H
  rw [← hm]
  by_cases h64 : m < 64
  rotate_left
  · rw [if_neg h64]
    have hdt : decide ((64 : Int) ≤ (m : Int)) = true := decide_eq_true (by omega)
    have hdt2 : decide ((n : Int) + 1 < 1) = false := decide_eq_false (by omega)
    clear h hs h0 hm hfz hn
    go_enter Tryz.func44, Tryz.ntmps44
    go_wp2_with fail
    go_ret
    exact ⟨rfl, M, _, _, iv, ov, H.out, rfl, Below.refl B w⟩
  · rw [if_pos h64]
    have hdt : decide ((64 : Int) ≤ (m : Int)) = false := decide_eq_false (by omega)
    have hdt2 : decide ((n : Int) + 1 < 1) = false := decide_eq_false (by omega)
    obtain ⟨i0, hi, hz0, hz1, hz2⟩ := info_parts u32InfoM
    have f3 := hfz 3
    clear h hs h0 hm hfz hn
    go_enter Tryz.func44, Tryz.ntmps44
    go_wp2_with fail
    have HOC : Hid (w.ownsRow B 23 1 (.slice A m cc) m (u32V M.calls)) := by
      have := H.out.2.2.calls
      rw [← HM.out] at this
      exact this
    go_region_law ((refine step_append_lies _ (by rfl) _ _ _ (by rfl) B 23 i0 _ 1 4 Tryz.underlying44 hi hz0 hz1 hz2 rfl (by omega) (.slice A m cc) m _ (by rfl) ((HOC.out.alloc _).drew) ⟨w.heap.size, 0, none⟩ 1 1 [.int .u32 (M.pc : Int)] (by rfl) (by rfl) (World.news_of_block (cs := #[.int .u32 (M.pc : Int)]) (t := 23) (fr := (0, 0)) (heap_alloc_new w _)) (by simp [Value.oneCell']) (by omega) (by unfold maxLen; omega) (by omega) (by simp; omega) (w.heap.size + 1) (by simp) ?_; intro gg cap2 w2 hown1 hgrow hat hlt2; have hbk2 : Blk w2 b 88 [.slice (some ⟨bm, 0, none⟩) 262144 262144, .int .u32 (M.pc : Int), .slice (some ⟨g, 0, none⟩) (n + 1) cap, .slice A m cc, iv, ov, .bool M.digit] := Blk.grown (w := (w.alloc (.cells #[.int .u32 (M.pc : Int)] 23)).drew) (H.out.1.alloc _) ((HOC.out.alloc _).drew) (by decide) hgrow; have d3 := hbk2.cell (i := 3) rfl; have d1 := hbk2.cell (i := 1) rfl; have e3 := blk_frozen hbk2 3))
    all_goals (
      obtain ⟨H2, hb2⟩ := ref_call_push H.out _ hgrow hBw (cv' := .slice (some ⟨gg, 0, none⟩) (m + 1) cap2) (v := M.pc) (by rw [← HM.out]; exact hown1) (by rcases hat with hat | hat; exact .inl hat.symm; exact .inr (congrArg some hat)) hbk2
      obtain ⟨⟨g0, g1, g2, g3, g4, g5, g6⟩, hfz2, hlt3⟩ := seven H2.1
      have p1 := hfz2 1
      have p2 := hfz2 2
      obtain ⟨q3, q7⟩ := H2.top (l := l) (t := t) hH0.out
      rw [← HN.out] at q3 q7
      have hgb : g ≠ b := fun e => own_type H2.2.2.data (blk_not H2.1 (by decide)) (by rw [e]; rfl)
      obtain ⟨w3, hw3⟩ : ∃ w3, w3 = w2.setCell ⟨b, 3, none⟩ (.slice (some ⟨gg, 0, none⟩) (m + 1) cap2) := ⟨_, rfl⟩
      rw [← hw3] at H2 hb2 g0 g1 g2 g3 g4 g5 g6 p1 p2 q3 q7 ⊢
      have hB := H2.2.1
      have HF : Hid (RefM ((w3.setCell ⟨b, 1, none⟩ (.int .u32 (t : Int))).setCell ⟨b, 2, none⟩ (.slice (some ⟨g, 0, none⟩) n cap)) B b bm { M with pc := t, data := l, calls := M.calls ++ [M.pc] } (.slice (some ⟨g, 0, none⟩) n cap) (.slice (some ⟨gg, 0, none⟩) (m + 1) cap2) iv ov) := by
        have h1 := H2.cell (M' := { M with pc := t, calls := M.calls ++ [M.pc] }) 1 (.int .u32 (t : Int)) rfl (H2.2.2.same rfl rfl rfl rfl rfl)
        have h2 := q7.keep hB (blk_not H2.1 (by decide)) (blk_not H2.1 (by decide)) (blk_not H2.1 (by decide)) (Keep.set 1 (.int .u32 (t : Int)))
        exact h1.cell (M' := { M with pc := t, data := l, calls := M.calls ++ [M.pc] }) 2 _ rfl (h2.same rfl rfl rfl rfl rfl)
      have q3' : (w3.setCell ⟨b, 1, none⟩ (.int .u32 (t : Int))).cell? ⟨g, n, none⟩ = some (.int .u32 (t : Int)) := by
        have := q3
        unfold World.cell? at this ⊢
        rw [Below.heap_setCell _ _ _ _ hgb]
        exact this
      clear H2 q7 hw3 hfz2 hbk2 hown1 hgrow hat d3 d1 e3 c0 c1 c2 c3 c4 c5 c6 f3
      go_wp2_with fail
      go_ret
      exact ⟨rfl, _, _, iv, ov, HF.out, (hb2.setCell hB _).setCell hB _⟩)
theorem ref_out_push {w1 w2 : World} {B b bm : Nat} {M : MS} {dv cv iv ov ov' : Value} {v : UInt8} (h : RefM w1 B b bm M dv cv iv ov) (o : Obj) (hgr : (w1.alloc o).drew.grownBy w2 ov.ownBlock) (hBw : B ≤ w1.heap.size)
    (hown : w2.ownsRow B 5 1 ov' (M.out.length + 1) (Lib.byteCells M.out ++ [.int .u8 (v.toNat : Int)]))
    (hb2 : Blk w2 b 88 [.slice (some ⟨bm, 0, none⟩) 262144 262144, .int .u32 (M.pc : Int), dv, cv, iv, ov, .bool M.digit]) :
    RefM (w2.setCell ⟨b, 5, none⟩ ov') B b bm { M with out := M.out ++ [v] } dv cv iv ov' ∧ Below B w1 (w2.setCell ⟨b, 5, none⟩ ov') := by
  have hg : (w1.alloc o).grownBy w2 ov.ownBlock := ⟨hgr.os, hgr.tape, hgr.output, hgr.size, hgr.block⟩
  have hp2 := h.2.2.out_app (v := v) o hg hBw hown
  have hx2 : Below B w1 w2 := ((Below.refl B w1).alloc hBw _).grown hg (by simp; omega) (fun k hk => (own_lt h.2.2.out hk).1)
  refine ⟨⟨?_, h.2.1, hp2.keep h.2.1 (blk_not hb2 (by decide)) (blk_not hb2 (by decide)) (blk_not hb2 (by decide)) (Keep.set 5 _)⟩, hx2.setCell h.2.1 _⟩
  exact blk_set hb2 5 ov'
set_option maxRecDepth 100000 in
set_option maxHeartbeats 3200000 in
theorem step_out (B b bm : Nat) (M : MS) (dv cv iv ov : Value) (w : World) (h : RefM w B b bm M dv cv iv ov) (ok : M.Ok) (hol : M.out.length ≤ 100000000) (hBw : B ≤ w.heap.size) :
    Calls Tryz.prog 44 #[.pointer (some ⟨b, 0, none⟩), .int .u32 46] w (SPost B b bm M (stepS M 46) w) := by
  have hs : stepS M 46 = (popS M).bind fun (v, m1) => some { m1 with out := m1.out ++ [UInt8.ofNat v] } := rfl
  rw [hs]
  obtain ⟨⟨c0, c1, c2, c3, c4, c5, c6⟩, hfz, hlt⟩ := seven h.1
  have hd := ok.dlen
  obtain ⟨A, co, rfl, hl⟩ := Lst.of_own h.2.2.out
  have hrm := hl.room
  have hmx := hl.max
  unfold maxLen at hmx
  obtain ⟨m, hm⟩ : ∃ m, m = M.out.length := ⟨_, rfl⟩
  have HM := Lib.hid hm
  rw [← hm] at hrm c5 hol h
  clear hl
  rcases list_end M.data with h0 | ⟨l, t, h0⟩
  · rw [popS_nil h0]
    have H := Lib.hid h
    obtain ⟨A2, cd, rfl, hr, hmd⟩ := h.len
    have hz : M.data.length = 0 := by rw [h0]; rfl
    rw [hz] at c2
    clear h hs h0 hfz hz hr hd hm
    go_enter Tryz.func44, Tryz.ntmps44
    go_wp2_with fail
    go_ret
    exact ⟨rfl, M, _, cv, iv, _, H.out, rfl, Below.refl B w⟩
  rw [popS_snoc h0]
  simp only [Option.bind_some]
  rw [h0, List.length_append, List.length_singleton] at hd
  obtain ⟨g, cap, rfl, k1, k2, -, -, k5, -, -, -, -⟩ := h.2.2.data_set (y := 0) h0
  unfold maxLen at k2
  have H := Lib.hid h
  have hH0 := Lib.hid h0
  obtain ⟨n, hn⟩ : ∃ n, n = l.length := ⟨_, rfl⟩
  have HN := Lib.hid hn
  rw [← hn] at c2 k1 hd H
  have hdt2 : decide ((n : Int) + 1 < 1) = false := decide_eq_false (by omega)
  obtain ⟨q3, q7⟩ := H.out.top (l := l) (t := t) h0
  rw [← hn] at q3 q7
  obtain ⟨i0, hi, hz0, hz1, hz2⟩ := info_parts byteInfoM
  have f5 := hfz 5
  have HV : Hid (((UInt8.ofNat t).toNat : Int) = (t : Int) % 256) := by
    show _ = _
    rw [UInt8.toNat_ofNat']
    omega
  have hwn : IntKind.i64.wrap (n : Int) = (n : Int) := IntWalk.i64_in _ (by omega)
  have hwn1 : (0 : Int) ≤ (n : Int) := by omega
  have hwn2 : (n : Int) < (n : Int) + 1 := by omega
  clear h hs h0 hm hfz hn q7
  go_enter Tryz.func44, Tryz.ntmps44
  go_wp2_with fail
  have HOC : Hid (w.ownsRow B 5 1 (.slice A m co) m (Lib.byteCells M.out)) := by
    have := H.out.2.2.out
    rw [← HM.out] at this
    exact this
  go_region_law ((refine step_append_lies _ (by rfl) _ _ _ (by rfl) B 5 i0 _ 1 1 Tryz.underlying46 hi hz0 hz1 hz2 rfl (by omega) (.slice A m co) m _ (by rfl) ((HOC.out.alloc _).drew) ⟨w.heap.size, 0, none⟩ 1 1 [.int .u8 ((t : Int) % 256)] (by rfl) (by rfl) (World.news_of_block (cs := #[.int .u8 ((t : Int) % 256)]) (t := 5) (fr := (0, 0)) (heap_alloc_new w _)) (by simp [Value.oneCell']) (by omega) (by unfold maxLen; omega) (by omega) (by simp; omega) (w.heap.size + 1) (by simp) ?_; intro gg cap2 w2 hown1 hgrow hat hlt2; have hbk2 : Blk w2 b 88 [.slice (some ⟨bm, 0, none⟩) 262144 262144, .int .u32 (M.pc : Int), .slice (some ⟨g, 0, none⟩) (n + 1) cap, cv, iv, .slice A m co, .bool M.digit] := Blk.grown (w := (w.alloc (.cells #[.int .u8 ((t : Int) % 256)] 5)).drew) (H.out.1.alloc _) ((HOC.out.alloc _).drew) (by decide) hgrow; have d5 := hbk2.cell (i := 5) rfl; have d2 := hbk2.cell (i := 2) rfl; have e5 := blk_frozen hbk2 5))
  all_goals (
    obtain ⟨H2, hb2⟩ := ref_out_push H.out _ hgrow hBw (ov' := .slice (some ⟨gg, 0, none⟩) (m + 1) cap2) (v := UInt8.ofNat t) (by rw [← HM.out, HV.out]; exact hown1) hbk2
    obtain ⟨⟨g0, g1, g2, g3, g4, g5, g6⟩, hfz2, hlt3⟩ := seven H2.1
    have p2 := hfz2 2
    obtain ⟨q3, q7⟩ := H2.top (l := l) (t := t) hH0.out
    rw [← HN.out] at q3 q7
    obtain ⟨w3, hw3⟩ : ∃ w3, w3 = w2.setCell ⟨b, 5, none⟩ (.slice (some ⟨gg, 0, none⟩) (m + 1) cap2) := ⟨_, rfl⟩
    rw [← hw3] at H2 hb2 g0 g1 g2 g3 g4 g5 g6 p2 q3 q7 ⊢
    have hB := H2.2.1
    have HF : Hid (RefM (w3.setCell ⟨b, 2, none⟩ (.slice (some ⟨g, 0, none⟩) n cap)) B b bm { M with data := l, out := M.out ++ [UInt8.ofNat t] } (.slice (some ⟨g, 0, none⟩) n cap) cv iv (.slice (some ⟨gg, 0, none⟩) (m + 1) cap2)) := by
      exact H2.cell (M' := { M with data := l, out := M.out ++ [UInt8.ofNat t] }) 2 _ rfl (q7.same rfl rfl rfl rfl rfl)
    clear H2 q7 hw3 hfz2 hbk2 hown1 hgrow hat d2 d5 e5 c0 c1 c2 c3 c4 c5 c6 f5
    go_wp2_with fail
    go_ret
    exact ⟨rfl, _, cv, iv, _, HF.out, hb2.setCell hB _⟩)
end Go.Proofs.YtjmglbppmolipaaGreatDoor
namespace Go.Proofs.YtjmglbppmolipaaGreatDoor
open Go.RowKit
open Go.Lib hiding intOf
set_option linter.unusedVariables false
set_option linter.unusedSimpArgs false

theorem bin_of {c : Nat} (h : isBin c = true) : c = 43 ∨ c = 45 ∨ c = 42 ∨ c = 47 ∨ c = 37 ∨ c = 94 ∨ c = 60 := by
  unfold isBin at h
  simpa using h
theorem tq_45 (a b k : Nat) (hb : b < k) : ((a : Int) - (b : Int)) % (k : Int) = (((a + k - b) % k : Nat) : Int) := by
  rw [Int.natCast_emod, show ((a + k - b : Nat) : Int) = (a : Int) - (b : Int) + (k : Int) by omega, Int.add_emod_right]
theorem tq_45b (a b : Nat) (hb : b < 4294967296) : ((a : Int) - (b : Int)) % 4294967296 = (((a + 4294967296 - b) % 4294967296 : Nat) : Int) := tq_45 a b 4294967296 hb
theorem bs_45 (a b : Nat) : binS 45 a b = some ((a + 4294967296 - b) % 4294967296) := by unfold binS; rw [if_neg (by decide), if_pos rfl]
theorem op_43 (a b : Nat) (w : World) (ha : a < 4294967296) (hb : b < 4294967296) :
    Calls Tryz.prog 78 #[.int .u32 (43 : Int), .int .u32 (a : Int), .int .u32 (b : Int)] w fun e w' => e = .returned (.tuple #[.int .u32 (((binS 43 a b).getD 0 : Nat) : Int), .bool (binS 43 a b).isSome]) ∧ w = w' := by
  have hv : binS 43 a b = some ((a + b) % 4294967296) := by unfold binS; rw [if_pos rfl]
  have hq : ((a : Int) + (b : Int)) % 4294967296 = (((a + b) % 4294967296 : Nat) : Int) := by omega
  rw [hv]
  generalize (a + b) % 4294967296 = v at *
  simp only [Option.getD_some, Option.isSome_some]
  clear hv
  go_enter Tryz.func78, Tryz.ntmps78
  go_wp2_with fail
  go_ret2
  exact ⟨by simp [hq], rfl⟩
theorem op_45v (a b v : Nat) (w : World) (ha : a < 4294967296) (hb : b < 4294967296) (hq : ((a : Int) - (b : Int)) % 4294967296 = (v : Int)) :
    Calls Tryz.prog 78 #[.int .u32 (45 : Int), .int .u32 (a : Int), .int .u32 (b : Int)] w fun e w' => e = .returned (.tuple #[.int .u32 (v : Int), .bool true]) ∧ w = w' := by
  go_enter Tryz.func78, Tryz.ntmps78
  go_wp2_with fail
  go_ret2
  exact ⟨by simp [hq], rfl⟩
theorem op_45w (a b v : Nat) (w : World) (ha : a < 4294967296) (hb : b < 4294967296) (hq : ((a : Int) - (b : Int)) % 4294967296 = (v : Int)) (hv : binS 45 a b = some v) :
    Calls Tryz.prog 78 #[.int .u32 (45 : Int), .int .u32 (a : Int), .int .u32 (b : Int)] w fun e w' => e = .returned (.tuple #[.int .u32 (((binS 45 a b).getD 0 : Nat) : Int), .bool (binS 45 a b).isSome]) ∧ w = w' := by
  rw [hv]
  exact op_45v a b v w ha hb hq
theorem op_45 (a b : Nat) (w : World) (ha : a < 4294967296) (hb : b < 4294967296) :
    Calls Tryz.prog 78 #[.int .u32 (45 : Int), .int .u32 (a : Int), .int .u32 (b : Int)] w fun e w' => e = .returned (.tuple #[.int .u32 (((binS 45 a b).getD 0 : Nat) : Int), .bool (binS 45 a b).isSome]) ∧ w = w' :=
  op_45w a b _ w ha hb (tq_45b a b hb) (bs_45 a b)
theorem op_42 (a b : Nat) (w : World) (ha : a < 4294967296) (hb : b < 4294967296) :
    Calls Tryz.prog 78 #[.int .u32 (42 : Int), .int .u32 (a : Int), .int .u32 (b : Int)] w fun e w' => e = .returned (.tuple #[.int .u32 (((binS 42 a b).getD 0 : Nat) : Int), .bool (binS 42 a b).isSome]) ∧ w = w' := by
  have hv : binS 42 a b = some (a * b % 4294967296) := by unfold binS; rw [if_neg (by decide), if_neg (by decide), if_pos rfl]
  have hq : ((a : Int) * (b : Int)) % 4294967296 = ((a * b % 4294967296 : Nat) : Int) := by simp
  rw [hv]
  generalize a * b % 4294967296 = v at *
  simp only [Option.getD_some, Option.isSome_some]
  clear hv
  go_enter Tryz.func78, Tryz.ntmps78
  go_wp2_with fail
  go_ret2
  exact ⟨by simp [hq], rfl⟩
theorem op_47 (a b : Nat) (w : World) (ha : a < 4294967296) (hb : b < 4294967296) :
    Calls Tryz.prog 78 #[.int .u32 (47 : Int), .int .u32 (a : Int), .int .u32 (b : Int)] w fun e w' => e = .returned (.tuple #[.int .u32 (((binS 47 a b).getD 0 : Nat) : Int), .bool (binS 47 a b).isSome]) ∧ w = w' := by
  by_cases h0 : b = 0
  · subst h0
    have hv : binS 47 a 0 = none := by unfold binS; rw [if_neg (by decide), if_neg (by decide), if_neg (by decide), if_pos rfl, if_pos rfl]
    rw [hv]
    simp only [Option.getD_none, Option.isSome_none]
    clear hv
    go_enter Tryz.func78, Tryz.ntmps78
    go_wp2_with fail
    go_ret2
    exact ⟨rfl, rfl⟩
  · have hv : binS 47 a b = some (a / b) := by unfold binS; rw [if_neg (by decide), if_neg (by decide), if_neg (by decide), if_pos rfl, if_neg h0]
    have hb0 : ((b : Int) == 0) = false := by simp; omega
    have hb1 : ¬ (b : Int) = 0 := by omega
    have hl := Nat.div_le_self a b
    have hq : (a : Int) / (b : Int) = ((a / b : Nat) : Int) := (Int.natCast_ediv a b).symm
    rw [hv]
    generalize a / b = v at *
    simp only [Option.getD_some, Option.isSome_some]
    clear hv
    go_enter Tryz.func78, Tryz.ntmps78
    go_wp2_with fail
    go_ret2
    have hqq : (v : Int) % 4294967296 = (v : Int) := by omega
    exact ⟨by simp [hq, hqq], rfl⟩
theorem op_37 (a b : Nat) (w : World) (ha : a < 4294967296) (hb : b < 4294967296) :
    Calls Tryz.prog 78 #[.int .u32 (37 : Int), .int .u32 (a : Int), .int .u32 (b : Int)] w fun e w' => e = .returned (.tuple #[.int .u32 (((binS 37 a b).getD 0 : Nat) : Int), .bool (binS 37 a b).isSome]) ∧ w = w' := by
  by_cases h0 : b = 0
  · subst h0
    have hv : binS 37 a 0 = none := by unfold binS; rw [if_neg (by decide), if_neg (by decide), if_neg (by decide), if_neg (by decide), if_pos rfl, if_pos rfl]
    rw [hv]
    simp only [Option.getD_none, Option.isSome_none]
    clear hv
    go_enter Tryz.func78, Tryz.ntmps78
    go_wp2_with fail
    go_ret2
    exact ⟨rfl, rfl⟩
  · have hv : binS 37 a b = some (a % b) := by unfold binS; rw [if_neg (by decide), if_neg (by decide), if_neg (by decide), if_neg (by decide), if_pos rfl, if_neg h0]
    have hb0 : ((b : Int) == 0) = false := by simp; omega
    have hb1 : ¬ (b : Int) = 0 := by omega
    have hl := Nat.mod_le a b
    have hq : (a : Int) % (b : Int) = ((a % b : Nat) : Int) := (Int.natCast_emod a b).symm
    rw [hv]
    generalize a % b = v at *
    simp only [Option.getD_some, Option.isSome_some]
    clear hv
    go_enter Tryz.func78, Tryz.ntmps78
    go_wp2_with fail
    go_ret2
    have hqq : (v : Int) % 4294967296 = (v : Int) := by omega
    exact ⟨by simp [hq, hqq], rfl⟩
theorem op_94 (a b : Nat) (w : World) (ha : a < 4294967296) (hb : b < 4294967296) :
    Calls Tryz.prog 78 #[.int .u32 (94 : Int), .int .u32 (a : Int), .int .u32 (b : Int)] w fun e w' => e = .returned (.tuple #[.int .u32 (((binS 94 a b).getD 0 : Nat) : Int), .bool (binS 94 a b).isSome]) ∧ w = w' := by
  have hv : binS 94 a b = some (a ^^^ b) := by unfold binS; rw [if_neg (by decide), if_neg (by decide), if_neg (by decide), if_neg (by decide), if_neg (by decide), if_pos rfl]
  have hq := xor_nat a b ha hb
  rw [hv]
  generalize a ^^^ b = v at *
  simp only [Option.getD_some, Option.isSome_some]
  clear hv
  go_enter Tryz.func78, Tryz.ntmps78
  go_wp2_with fail
  go_ret2
  exact ⟨by simp [hq], rfl⟩
theorem op_60 (a b : Nat) (w : World) (ha : a < 4294967296) (hb : b < 4294967296) :
    Calls Tryz.prog 78 #[.int .u32 (60 : Int), .int .u32 (a : Int), .int .u32 (b : Int)] w fun e w' => e = .returned (.tuple #[.int .u32 (((binS 60 a b).getD 0 : Nat) : Int), .bool (binS 60 a b).isSome]) ∧ w = w' := by
  have hv : binS 60 a b = some (if a < b then 1 else 0) := by unfold binS; rw [if_neg (by decide), if_neg (by decide), if_neg (by decide), if_neg (by decide), if_neg (by decide), if_neg (by decide), if_pos rfl]
  rw [hv]
  simp only [Option.getD_some, Option.isSome_some]
  clear hv
  by_cases h : a < b
  · rw [if_pos h]
    clear ha hb
    go_enter Tryz.func78, Tryz.ntmps78
    go_wp2_with fail
    go_ret2
    exact ⟨rfl, rfl⟩
  · rw [if_neg h]
    clear ha hb
    go_enter Tryz.func78, Tryz.ntmps78
    go_wp2_with fail
    go_ret2
    exact ⟨rfl, rfl⟩
theorem operate_any (c a b : Nat) (w : World) (hc : isBin c = true) (ha : a < 4294967296) (hb : b < 4294967296) :
    Calls Tryz.prog 78 #[.int .u32 (c : Int), .int .u32 (a : Int), .int .u32 (b : Int)] w fun e w' => e = .returned (.tuple #[.int .u32 (((binS c a b).getD 0 : Nat) : Int), .bool (binS c a b).isSome]) ∧ w = w' := by
  rcases bin_of hc with rfl | rfl | rfl | rfl | rfl | rfl | rfl
  · exact op_43 a b w ha hb
  · exact op_45 a b w ha hb
  · exact op_42 a b w ha hb
  · exact op_47 a b w ha hb
  · exact op_37 a b w ha hb
  · exact op_94 a b w ha hb
  · exact op_60 a b w ha hb
end Go.Proofs.YtjmglbppmolipaaGreatDoor
namespace Go.Proofs.YtjmglbppmolipaaGreatDoor
open Go.RowKit
open Go.Lib hiding intOf
set_option linter.unusedVariables false
set_option linter.unusedSimpArgs false

theorem Parts.drewN {w : World} {B bm : Nat} {M : MS} {dv cv iv ov : Value} (h : Parts w B bm M dv cv iv ov) (n : Nat) : Parts (w.drewN n) B bm M dv cv iv ov := by
  obtain ⟨p1, p2, p3, p4, p5, p6, p7, p8, p9, p10⟩ := h
  refine ⟨p1, p2, p3, p4, p5, ?_, p7, p8, p9, p10⟩
  obtain ⟨A, n, c, e, hl, hA⟩ := p6
  exact ⟨A, n, c, e, ⟨hl.len, hl.room, hl.max, hl.at_⟩, hA⟩
theorem below_drewN {B : Nat} {w w' : World} (h : Below B w w') (n : Nat) : Below B w (w'.drewN n) := ⟨h.os, h.tape, h.output, h.size, h.block⟩
theorem ref_data_push {w1 w2 : World} {B b bm : Nat} {M : MS} {dv0 dv1 dv' cv iv ov : Value} {l : List Nat} {v : Nat} (hb : Blk w1 b 88 [.slice (some ⟨bm, 0, none⟩) 262144 262144, .int .u32 (M.pc : Int), dv0, cv, iv, ov, .bool M.digit]) (hBb : B ≤ b)
    (hp : Parts w1 B bm { M with data := l } dv1 cv iv ov) (o : Obj) (hgr : (w1.alloc o).grownBy w2 dv1.ownBlock) (hBw : B ≤ w1.heap.size)
    (hown : w2.ownsRow B 23 1 dv' (l.length + 1) (u32V l ++ [.int .u32 (v : Int)])) (hat : dv'.ownBlock = dv1.ownBlock ∨ dv'.ownBlock = some (w1.heap.size + 1)) :
    (Blk w2 b 88 [.slice (some ⟨bm, 0, none⟩) 262144 262144, .int .u32 (M.pc : Int), dv0, cv, iv, ov, .bool M.digit]) ∧
    RefM (w2.setCell ⟨b, 2, none⟩ dv') B b bm { M with data := l ++ [v] } dv' cv iv ov ∧ Below B w1 (w2.setCell ⟨b, 2, none⟩ dv') := by
  have hb2 : Blk w2 b 88 _ := (hb.alloc o).grown (own_ext hp.data ((Ext.refl _).alloc o)) (by decide) hgr
  have hp2 := hp.data_app (v := v) o hgr hBw hown hat
  have hx2 : Below B w1 w2 := ((Below.refl B w1).alloc hBw _).grown hgr (by simp; omega) (fun k hk => (own_lt hp.data hk).1)
  exact ⟨hb2, ⟨blk_set hb2 2 _, hBb, hp2.keep hBb (blk_not hb2 (by decide)) (blk_not hb2 (by decide)) (blk_not hb2 (by decide)) (Keep.set 2 _)⟩, hx2.setCell hBb _⟩
theorem stepS_bin {M : MS} {c a v : Nat} {l : List Nat} (hc : isBin c = true) (h0 : M.data = l ++ [v] ++ [a]) (hl : l.length < 256) : stepS M c = (binS c v a).map fun x => { M with data := l ++ [x] } := by
  have h1 : isDig c = false ∧ ¬ (c = 32 ∨ c = 10) := by
    rcases bin_of hc with rfl | rfl | rfl | rfl | rfl | rfl | rfl <;> exact ⟨by decide, by decide⟩
  unfold stepS
  rw [if_neg (by rw [h1.1]; decide), if_neg h1.2, if_pos hc, popS_snoc h0]
  simp only [Option.bind_some]
  rw [popS_snoc (m := { M with data := l ++ [v] }) rfl]
  simp only [Option.bind_some]
  cases binS c v a with
  | none => rfl
  | some x =>
    simp only [Option.bind_some, Option.map_some]
    unfold pushS
    rw [if_pos hl]
theorem stepS_bin_no {M : MS} {c : Nat} (hc : isBin c = true) (h0 : M.data = [] ∨ ∃ a, M.data = [a]) : stepS M c = none := by
  have h1 : isDig c = false ∧ ¬ (c = 32 ∨ c = 10) := by
    rcases bin_of hc with rfl | rfl | rfl | rfl | rfl | rfl | rfl <;> exact ⟨by decide, by decide⟩
  unfold stepS
  rw [if_neg (by rw [h1.1]; decide), if_neg h1.2, if_pos hc]
  rcases h0 with h0 | ⟨a, h0⟩
  · rw [popS_nil h0]; rfl
  · rw [popS_snoc (l := []) (v := a) h0]
    simp only [Option.bind_some]
    rw [popS_nil (m := { M with data := [] }) rfl]; rfl
set_option maxRecDepth 100000 in
set_option maxHeartbeats 3200000 in
theorem step_43 (B b bm : Nat) (M : MS) (dv cv iv ov : Value) (w : World) (h : RefM w B b bm M dv cv iv ov) (ok : M.Ok) (hBw : B ≤ w.heap.size) :
    Calls Tryz.prog 44 #[.pointer (some ⟨b, 0, none⟩), .int .u32 43] w (SPost B b bm M (stepS M 43) w) := by
  obtain ⟨⟨c0, c1, c2, c3, c4, c5, c6⟩, hfz, hlt⟩ := seven h.1
  have hd := ok.dlen
  rcases two_ends (M := M) with h0 | ⟨l, v, a, h0⟩
  · have hl2 := less_two h0
    rw [stepS_bin_no (by decide) h0]
    have H := Lib.hid h
    obtain ⟨A, cd, rfl, hr, hm⟩ := h.len
    generalize M.data.length = m at *
    have hdt : decide ((m : Int) < 2) = true := decide_eq_true (by omega)
    clear h h0 hfz
    go_enter Tryz.func44, Tryz.ntmps44
    go_wp2_with fail
    go_ret
    exact ⟨rfl, M, _, cv, iv, ov, H.out, rfl, Below.refl B w⟩
  · have hl254 : l.length ≤ 254 := by rw [h0] at hd; simp at hd; omega
    rw [stepS_bin (by decide) h0 (by omega)]
    have ha : a < 4294967296 := ok.data a (by rw [h0]; simp)
    have hv : v < 4294967296 := ok.data v (by rw [h0]; simp)
    obtain ⟨g, cap, rfl, k1, k2, k3, k4, k5, k6, k7⟩ := h.2.2.two h0
    have H := Lib.hid (fun n => h.drewN n)
    have HP := Lib.hid (fun n => k6.drewN n)
    have HOP0 := fun W => (operate_any 43 v a W (by decide) hv ha).mono (fun e w' (q : _ ∧ _) => (⟨q.1, q.2.symm⟩ : _ ∧ w' = W))
    obtain ⟨r, hr⟩ : ∃ r, r = binS 43 v a := ⟨_, rfl⟩
    rw [← hr] at HOP0 ⊢
    obtain ⟨m, hm⟩ : ∃ m, m = l.length := ⟨_, rfl⟩
    have HM := Lib.hid hm
    rw [← hm] at k1 k3 k4 c2 hl254 H HP
    have hdt : decide ((m : Int) + 2 < 2) = false := decide_eq_false (by omega)
    have e1 : IntKind.i64.wrap ((m : Int) + 2 - 2) = (m : Int) := by rw [IntWalk.i64_in _ (by omega)]; omega
    have e2 : IntKind.i64.wrap ((m : Int) + 2 - 1) = (m : Int) + 1 := by rw [IntWalk.i64_in _ (by omega)]; omega
    clear h h0 hfz k6 k7 ha hv hr hm
    cases r with
    | none =>
      simp only [Option.getD_none, Option.isSome_none, Option.map_none] at HOP0 ⊢
      have HOP := Lib.hid HOP0
      clear HOP0
      go_enter Tryz.func44, Tryz.ntmps44
      go_wp2_with fail
      go_quiet ((first | exact Calls.quiet_of_same (HOP.out _)))
      go_wp2_with fail
      go_ret
      exact ⟨rfl, M, _, cv, iv, ov, H.out nq, rfl, below_drewN (Below.refl B w) nq⟩
    | some x =>
      simp only [Option.getD_some, Option.isSome_some, Option.map_some] at HOP0 ⊢
      have HOP := Lib.hid HOP0
      clear HOP0
      go_enter Tryz.func44, Tryz.ntmps44
      go_wp2_with fail
      go_quiet ((first | exact Calls.quiet_of_same (HOP.out _)))
      have hH := H.out nq
      have hP := HP.out nq
      have hBW : B ≤ (w.drewN nq).heap.size := hBw
      have hx0 : Below B w (w.drewN nq) := below_drewN (Below.refl B w) nq
      clear c0 c1 c2 c3 c4 c5 c6 k3 k4 H HP HOP
      generalize w.drewN nq = W at *
      obtain ⟨⟨c0, c1, c2, c3, c4, c5, c6⟩, hfz, hlt2⟩ := seven hH.1
      have f2 := hfz 2
      have hO := hP.data
      rw [show ({ M with data := l } : MS).data.length = m from HM.out.symm] at hO
      have HO := Lib.hid hO
      have HB := Lib.hid hH.1
      have HPP := Lib.hid hP
      have HX := Lib.hid hx0
      have hBb := hH.2.1
      obtain ⟨i0, hi, hz0, hz1, hz2⟩ := info_parts u32InfoM
      clear hH hP hfz hO hx0 e2 hdt
      go_wp2_with (at_builtin; refine wpList_append_own_at _ rfl (.tmp 91) (.tmp 93) _ rfl B 23 i0 _ 1 4 Tryz.underlying44 hi hz0 hz1 hz2 rfl (by omega) _ _ _ rfl (HO.out.alloc _) ⟨W.heap.size, 0, none⟩ 1 1 [.int .u32 (x : Int)] rfl rfl (cell_one_new _ _ _) ?k1 ?k2 ?k3 ?k4 ?_)
      case k1 => first | rfl | (intro u hu; simp at hu; subst hu; rfl)
      case k2 => unfold maxLen; omega
      case k3 => omega
      case k4 => first | omega | (simp; omega)
      intro dv' w2 hown2 hgr _ hat
      obtain ⟨A2, cd2, rfl, -⟩ := Lst.of_own hown2
      obtain ⟨hb2, hr2, hx2⟩ := ref_data_push HB.out hBb HPP.out _ hgr hBW (v := x) (by rw [← HM.out]; exact hown2) hat
      obtain ⟨⟨d0, d1, d2, d3, d4, d5, d6⟩, hfz2, hlt3⟩ := seven hb2
      have g2 := hfz2 2
      have HR2 := Lib.hid hr2
      have HX2 := Lib.hid (HX.out.trans hx2)
      clear hb2 hr2 hx2 hfz2 hown2 hgr hat c0 c1 c2 c3 c4 c5 c6 HO HB HPP f2
      go_wp2_with fail
      go_ret
      exact ⟨rfl, _, cv, iv, ov, HR2.out, HX2.out⟩
set_option maxRecDepth 100000 in
set_option maxHeartbeats 3200000 in
theorem step_45 (B b bm : Nat) (M : MS) (dv cv iv ov : Value) (w : World) (h : RefM w B b bm M dv cv iv ov) (ok : M.Ok) (hBw : B ≤ w.heap.size) :
    Calls Tryz.prog 44 #[.pointer (some ⟨b, 0, none⟩), .int .u32 45] w (SPost B b bm M (stepS M 45) w) := by
  obtain ⟨⟨c0, c1, c2, c3, c4, c5, c6⟩, hfz, hlt⟩ := seven h.1
  have hd := ok.dlen
  rcases two_ends (M := M) with h0 | ⟨l, v, a, h0⟩
  · have hl2 := less_two h0
    rw [stepS_bin_no (by decide) h0]
    have H := Lib.hid h
    obtain ⟨A, cd, rfl, hr, hm⟩ := h.len
    generalize M.data.length = m at *
    have hdt : decide ((m : Int) < 2) = true := decide_eq_true (by omega)
    clear h h0 hfz
    go_enter Tryz.func44, Tryz.ntmps44
    go_wp2_with fail
    go_ret
    exact ⟨rfl, M, _, cv, iv, ov, H.out, rfl, Below.refl B w⟩
  · have hl254 : l.length ≤ 254 := by rw [h0] at hd; simp at hd; omega
    rw [stepS_bin (by decide) h0 (by omega)]
    have ha : a < 4294967296 := ok.data a (by rw [h0]; simp)
    have hv : v < 4294967296 := ok.data v (by rw [h0]; simp)
    obtain ⟨g, cap, rfl, k1, k2, k3, k4, k5, k6, k7⟩ := h.2.2.two h0
    have H := Lib.hid (fun n => h.drewN n)
    have HP := Lib.hid (fun n => k6.drewN n)
    have HOP0 := fun W => (operate_any 45 v a W (by decide) hv ha).mono (fun e w' (q : _ ∧ _) => (⟨q.1, q.2.symm⟩ : _ ∧ w' = W))
    obtain ⟨r, hr⟩ : ∃ r, r = binS 45 v a := ⟨_, rfl⟩
    rw [← hr] at HOP0 ⊢
    obtain ⟨m, hm⟩ : ∃ m, m = l.length := ⟨_, rfl⟩
    have HM := Lib.hid hm
    rw [← hm] at k1 k3 k4 c2 hl254 H HP
    have hdt : decide ((m : Int) + 2 < 2) = false := decide_eq_false (by omega)
    have e1 : IntKind.i64.wrap ((m : Int) + 2 - 2) = (m : Int) := by rw [IntWalk.i64_in _ (by omega)]; omega
    have e2 : IntKind.i64.wrap ((m : Int) + 2 - 1) = (m : Int) + 1 := by rw [IntWalk.i64_in _ (by omega)]; omega
    clear h h0 hfz k6 k7 ha hv hr hm
    cases r with
    | none =>
      simp only [Option.getD_none, Option.isSome_none, Option.map_none] at HOP0 ⊢
      have HOP := Lib.hid HOP0
      clear HOP0
      go_enter Tryz.func44, Tryz.ntmps44
      go_wp2_with fail
      go_quiet ((first | exact Calls.quiet_of_same (HOP.out _)))
      go_wp2_with fail
      go_ret
      exact ⟨rfl, M, _, cv, iv, ov, H.out nq, rfl, below_drewN (Below.refl B w) nq⟩
    | some x =>
      simp only [Option.getD_some, Option.isSome_some, Option.map_some] at HOP0 ⊢
      have HOP := Lib.hid HOP0
      clear HOP0
      go_enter Tryz.func44, Tryz.ntmps44
      go_wp2_with fail
      go_quiet ((first | exact Calls.quiet_of_same (HOP.out _)))
      have hH := H.out nq
      have hP := HP.out nq
      have hBW : B ≤ (w.drewN nq).heap.size := hBw
      have hx0 : Below B w (w.drewN nq) := below_drewN (Below.refl B w) nq
      clear c0 c1 c2 c3 c4 c5 c6 k3 k4 H HP HOP
      generalize w.drewN nq = W at *
      obtain ⟨⟨c0, c1, c2, c3, c4, c5, c6⟩, hfz, hlt2⟩ := seven hH.1
      have f2 := hfz 2
      have hO := hP.data
      rw [show ({ M with data := l } : MS).data.length = m from HM.out.symm] at hO
      have HO := Lib.hid hO
      have HB := Lib.hid hH.1
      have HPP := Lib.hid hP
      have HX := Lib.hid hx0
      have hBb := hH.2.1
      obtain ⟨i0, hi, hz0, hz1, hz2⟩ := info_parts u32InfoM
      clear hH hP hfz hO hx0 e2 hdt
      go_wp2_with (at_builtin; refine wpList_append_own_at _ rfl (.tmp 91) (.tmp 93) _ rfl B 23 i0 _ 1 4 Tryz.underlying44 hi hz0 hz1 hz2 rfl (by omega) _ _ _ rfl (HO.out.alloc _) ⟨W.heap.size, 0, none⟩ 1 1 [.int .u32 (x : Int)] rfl rfl (cell_one_new _ _ _) ?k1 ?k2 ?k3 ?k4 ?_)
      case k1 => first | rfl | (intro u hu; simp at hu; subst hu; rfl)
      case k2 => unfold maxLen; omega
      case k3 => omega
      case k4 => first | omega | (simp; omega)
      intro dv' w2 hown2 hgr _ hat
      obtain ⟨A2, cd2, rfl, -⟩ := Lst.of_own hown2
      obtain ⟨hb2, hr2, hx2⟩ := ref_data_push HB.out hBb HPP.out _ hgr hBW (v := x) (by rw [← HM.out]; exact hown2) hat
      obtain ⟨⟨d0, d1, d2, d3, d4, d5, d6⟩, hfz2, hlt3⟩ := seven hb2
      have g2 := hfz2 2
      have HR2 := Lib.hid hr2
      have HX2 := Lib.hid (HX.out.trans hx2)
      clear hb2 hr2 hx2 hfz2 hown2 hgr hat c0 c1 c2 c3 c4 c5 c6 HO HB HPP f2
      go_wp2_with fail
      go_ret
      exact ⟨rfl, _, cv, iv, ov, HR2.out, HX2.out⟩
set_option maxRecDepth 100000 in
set_option maxHeartbeats 3200000 in
theorem step_42 (B b bm : Nat) (M : MS) (dv cv iv ov : Value) (w : World) (h : RefM w B b bm M dv cv iv ov) (ok : M.Ok) (hBw : B ≤ w.heap.size) :
    Calls Tryz.prog 44 #[.pointer (some ⟨b, 0, none⟩), .int .u32 42] w (SPost B b bm M (stepS M 42) w) := by
  obtain ⟨⟨c0, c1, c2, c3, c4, c5, c6⟩, hfz, hlt⟩ := seven h.1
  have hd := ok.dlen
  rcases two_ends (M := M) with h0 | ⟨l, v, a, h0⟩
  · have hl2 := less_two h0
    rw [stepS_bin_no (by decide) h0]
    have H := Lib.hid h
    obtain ⟨A, cd, rfl, hr, hm⟩ := h.len
    generalize M.data.length = m at *
    have hdt : decide ((m : Int) < 2) = true := decide_eq_true (by omega)
    clear h h0 hfz
    go_enter Tryz.func44, Tryz.ntmps44
    go_wp2_with fail
    go_ret
    exact ⟨rfl, M, _, cv, iv, ov, H.out, rfl, Below.refl B w⟩
  · have hl254 : l.length ≤ 254 := by rw [h0] at hd; simp at hd; omega
    rw [stepS_bin (by decide) h0 (by omega)]
    have ha : a < 4294967296 := ok.data a (by rw [h0]; simp)
    have hv : v < 4294967296 := ok.data v (by rw [h0]; simp)
    obtain ⟨g, cap, rfl, k1, k2, k3, k4, k5, k6, k7⟩ := h.2.2.two h0
    have H := Lib.hid (fun n => h.drewN n)
    have HP := Lib.hid (fun n => k6.drewN n)
    have HOP0 := fun W => (operate_any 42 v a W (by decide) hv ha).mono (fun e w' (q : _ ∧ _) => (⟨q.1, q.2.symm⟩ : _ ∧ w' = W))
    obtain ⟨r, hr⟩ : ∃ r, r = binS 42 v a := ⟨_, rfl⟩
    rw [← hr] at HOP0 ⊢
    obtain ⟨m, hm⟩ : ∃ m, m = l.length := ⟨_, rfl⟩
    have HM := Lib.hid hm
    rw [← hm] at k1 k3 k4 c2 hl254 H HP
    have hdt : decide ((m : Int) + 2 < 2) = false := decide_eq_false (by omega)
    have e1 : IntKind.i64.wrap ((m : Int) + 2 - 2) = (m : Int) := by rw [IntWalk.i64_in _ (by omega)]; omega
    have e2 : IntKind.i64.wrap ((m : Int) + 2 - 1) = (m : Int) + 1 := by rw [IntWalk.i64_in _ (by omega)]; omega
    clear h h0 hfz k6 k7 ha hv hr hm
    cases r with
    | none =>
      simp only [Option.getD_none, Option.isSome_none, Option.map_none] at HOP0 ⊢
      have HOP := Lib.hid HOP0
      clear HOP0
      go_enter Tryz.func44, Tryz.ntmps44
      go_wp2_with fail
      go_quiet ((first | exact Calls.quiet_of_same (HOP.out _)))
      go_wp2_with fail
      go_ret
      exact ⟨rfl, M, _, cv, iv, ov, H.out nq, rfl, below_drewN (Below.refl B w) nq⟩
    | some x =>
      simp only [Option.getD_some, Option.isSome_some, Option.map_some] at HOP0 ⊢
      have HOP := Lib.hid HOP0
      clear HOP0
      go_enter Tryz.func44, Tryz.ntmps44
      go_wp2_with fail
      go_quiet ((first | exact Calls.quiet_of_same (HOP.out _)))
      have hH := H.out nq
      have hP := HP.out nq
      have hBW : B ≤ (w.drewN nq).heap.size := hBw
      have hx0 : Below B w (w.drewN nq) := below_drewN (Below.refl B w) nq
      clear c0 c1 c2 c3 c4 c5 c6 k3 k4 H HP HOP
      generalize w.drewN nq = W at *
      obtain ⟨⟨c0, c1, c2, c3, c4, c5, c6⟩, hfz, hlt2⟩ := seven hH.1
      have f2 := hfz 2
      have hO := hP.data
      rw [show ({ M with data := l } : MS).data.length = m from HM.out.symm] at hO
      have HO := Lib.hid hO
      have HB := Lib.hid hH.1
      have HPP := Lib.hid hP
      have HX := Lib.hid hx0
      have hBb := hH.2.1
      obtain ⟨i0, hi, hz0, hz1, hz2⟩ := info_parts u32InfoM
      clear hH hP hfz hO hx0 e2 hdt
      go_wp2_with (at_builtin; refine wpList_append_own_at _ rfl (.tmp 91) (.tmp 93) _ rfl B 23 i0 _ 1 4 Tryz.underlying44 hi hz0 hz1 hz2 rfl (by omega) _ _ _ rfl (HO.out.alloc _) ⟨W.heap.size, 0, none⟩ 1 1 [.int .u32 (x : Int)] rfl rfl (cell_one_new _ _ _) ?k1 ?k2 ?k3 ?k4 ?_)
      case k1 => first | rfl | (intro u hu; simp at hu; subst hu; rfl)
      case k2 => unfold maxLen; omega
      case k3 => omega
      case k4 => first | omega | (simp; omega)
      intro dv' w2 hown2 hgr _ hat
      obtain ⟨A2, cd2, rfl, -⟩ := Lst.of_own hown2
      obtain ⟨hb2, hr2, hx2⟩ := ref_data_push HB.out hBb HPP.out _ hgr hBW (v := x) (by rw [← HM.out]; exact hown2) hat
      obtain ⟨⟨d0, d1, d2, d3, d4, d5, d6⟩, hfz2, hlt3⟩ := seven hb2
      have g2 := hfz2 2
      have HR2 := Lib.hid hr2
      have HX2 := Lib.hid (HX.out.trans hx2)
      clear hb2 hr2 hx2 hfz2 hown2 hgr hat c0 c1 c2 c3 c4 c5 c6 HO HB HPP f2
      go_wp2_with fail
      go_ret
      exact ⟨rfl, _, cv, iv, ov, HR2.out, HX2.out⟩
set_option maxRecDepth 100000 in
set_option maxHeartbeats 3200000 in
theorem step_47 (B b bm : Nat) (M : MS) (dv cv iv ov : Value) (w : World) (h : RefM w B b bm M dv cv iv ov) (ok : M.Ok) (hBw : B ≤ w.heap.size) :
    Calls Tryz.prog 44 #[.pointer (some ⟨b, 0, none⟩), .int .u32 47] w (SPost B b bm M (stepS M 47) w) := by
  obtain ⟨⟨c0, c1, c2, c3, c4, c5, c6⟩, hfz, hlt⟩ := seven h.1
  have hd := ok.dlen
  rcases two_ends (M := M) with h0 | ⟨l, v, a, h0⟩
  · have hl2 := less_two h0
    rw [stepS_bin_no (by decide) h0]
    have H := Lib.hid h
    obtain ⟨A, cd, rfl, hr, hm⟩ := h.len
    generalize M.data.length = m at *
    have hdt : decide ((m : Int) < 2) = true := decide_eq_true (by omega)
    clear h h0 hfz
    go_enter Tryz.func44, Tryz.ntmps44
    go_wp2_with fail
    go_ret
    exact ⟨rfl, M, _, cv, iv, ov, H.out, rfl, Below.refl B w⟩
  · have hl254 : l.length ≤ 254 := by rw [h0] at hd; simp at hd; omega
    rw [stepS_bin (by decide) h0 (by omega)]
    have ha : a < 4294967296 := ok.data a (by rw [h0]; simp)
    have hv : v < 4294967296 := ok.data v (by rw [h0]; simp)
    obtain ⟨g, cap, rfl, k1, k2, k3, k4, k5, k6, k7⟩ := h.2.2.two h0
    have H := Lib.hid (fun n => h.drewN n)
    have HP := Lib.hid (fun n => k6.drewN n)
    have HOP0 := fun W => (operate_any 47 v a W (by decide) hv ha).mono (fun e w' (q : _ ∧ _) => (⟨q.1, q.2.symm⟩ : _ ∧ w' = W))
    obtain ⟨r, hr⟩ : ∃ r, r = binS 47 v a := ⟨_, rfl⟩
    rw [← hr] at HOP0 ⊢
    obtain ⟨m, hm⟩ : ∃ m, m = l.length := ⟨_, rfl⟩
    have HM := Lib.hid hm
    rw [← hm] at k1 k3 k4 c2 hl254 H HP
    have hdt : decide ((m : Int) + 2 < 2) = false := decide_eq_false (by omega)
    have e1 : IntKind.i64.wrap ((m : Int) + 2 - 2) = (m : Int) := by rw [IntWalk.i64_in _ (by omega)]; omega
    have e2 : IntKind.i64.wrap ((m : Int) + 2 - 1) = (m : Int) + 1 := by rw [IntWalk.i64_in _ (by omega)]; omega
    clear h h0 hfz k6 k7 ha hv hr hm
    cases r with
    | none =>
      simp only [Option.getD_none, Option.isSome_none, Option.map_none] at HOP0 ⊢
      have HOP := Lib.hid HOP0
      clear HOP0
      go_enter Tryz.func44, Tryz.ntmps44
      go_wp2_with fail
      go_quiet ((first | exact Calls.quiet_of_same (HOP.out _)))
      go_wp2_with fail
      go_ret
      exact ⟨rfl, M, _, cv, iv, ov, H.out nq, rfl, below_drewN (Below.refl B w) nq⟩
    | some x =>
      simp only [Option.getD_some, Option.isSome_some, Option.map_some] at HOP0 ⊢
      have HOP := Lib.hid HOP0
      clear HOP0
      go_enter Tryz.func44, Tryz.ntmps44
      go_wp2_with fail
      go_quiet ((first | exact Calls.quiet_of_same (HOP.out _)))
      have hH := H.out nq
      have hP := HP.out nq
      have hBW : B ≤ (w.drewN nq).heap.size := hBw
      have hx0 : Below B w (w.drewN nq) := below_drewN (Below.refl B w) nq
      clear c0 c1 c2 c3 c4 c5 c6 k3 k4 H HP HOP
      generalize w.drewN nq = W at *
      obtain ⟨⟨c0, c1, c2, c3, c4, c5, c6⟩, hfz, hlt2⟩ := seven hH.1
      have f2 := hfz 2
      have hO := hP.data
      rw [show ({ M with data := l } : MS).data.length = m from HM.out.symm] at hO
      have HO := Lib.hid hO
      have HB := Lib.hid hH.1
      have HPP := Lib.hid hP
      have HX := Lib.hid hx0
      have hBb := hH.2.1
      obtain ⟨i0, hi, hz0, hz1, hz2⟩ := info_parts u32InfoM
      clear hH hP hfz hO hx0 e2 hdt
      go_wp2_with (at_builtin; refine wpList_append_own_at _ rfl (.tmp 91) (.tmp 93) _ rfl B 23 i0 _ 1 4 Tryz.underlying44 hi hz0 hz1 hz2 rfl (by omega) _ _ _ rfl (HO.out.alloc _) ⟨W.heap.size, 0, none⟩ 1 1 [.int .u32 (x : Int)] rfl rfl (cell_one_new _ _ _) ?k1 ?k2 ?k3 ?k4 ?_)
      case k1 => first | rfl | (intro u hu; simp at hu; subst hu; rfl)
      case k2 => unfold maxLen; omega
      case k3 => omega
      case k4 => first | omega | (simp; omega)
      intro dv' w2 hown2 hgr _ hat
      obtain ⟨A2, cd2, rfl, -⟩ := Lst.of_own hown2
      obtain ⟨hb2, hr2, hx2⟩ := ref_data_push HB.out hBb HPP.out _ hgr hBW (v := x) (by rw [← HM.out]; exact hown2) hat
      obtain ⟨⟨d0, d1, d2, d3, d4, d5, d6⟩, hfz2, hlt3⟩ := seven hb2
      have g2 := hfz2 2
      have HR2 := Lib.hid hr2
      have HX2 := Lib.hid (HX.out.trans hx2)
      clear hb2 hr2 hx2 hfz2 hown2 hgr hat c0 c1 c2 c3 c4 c5 c6 HO HB HPP f2
      go_wp2_with fail
      go_ret
      exact ⟨rfl, _, cv, iv, ov, HR2.out, HX2.out⟩
set_option maxRecDepth 100000 in
set_option maxHeartbeats 3200000 in
theorem step_37 (B b bm : Nat) (M : MS) (dv cv iv ov : Value) (w : World) (h : RefM w B b bm M dv cv iv ov) (ok : M.Ok) (hBw : B ≤ w.heap.size) :
    Calls Tryz.prog 44 #[.pointer (some ⟨b, 0, none⟩), .int .u32 37] w (SPost B b bm M (stepS M 37) w) := by
  obtain ⟨⟨c0, c1, c2, c3, c4, c5, c6⟩, hfz, hlt⟩ := seven h.1
  have hd := ok.dlen
  rcases two_ends (M := M) with h0 | ⟨l, v, a, h0⟩
  · have hl2 := less_two h0
    rw [stepS_bin_no (by decide) h0]
    have H := Lib.hid h
    obtain ⟨A, cd, rfl, hr, hm⟩ := h.len
    generalize M.data.length = m at *
    have hdt : decide ((m : Int) < 2) = true := decide_eq_true (by omega)
    clear h h0 hfz
    go_enter Tryz.func44, Tryz.ntmps44
    go_wp2_with fail
    go_ret
    exact ⟨rfl, M, _, cv, iv, ov, H.out, rfl, Below.refl B w⟩
  · have hl254 : l.length ≤ 254 := by rw [h0] at hd; simp at hd; omega
    rw [stepS_bin (by decide) h0 (by omega)]
    have ha : a < 4294967296 := ok.data a (by rw [h0]; simp)
    have hv : v < 4294967296 := ok.data v (by rw [h0]; simp)
    obtain ⟨g, cap, rfl, k1, k2, k3, k4, k5, k6, k7⟩ := h.2.2.two h0
    have H := Lib.hid (fun n => h.drewN n)
    have HP := Lib.hid (fun n => k6.drewN n)
    have HOP0 := fun W => (operate_any 37 v a W (by decide) hv ha).mono (fun e w' (q : _ ∧ _) => (⟨q.1, q.2.symm⟩ : _ ∧ w' = W))
    obtain ⟨r, hr⟩ : ∃ r, r = binS 37 v a := ⟨_, rfl⟩
    rw [← hr] at HOP0 ⊢
    obtain ⟨m, hm⟩ : ∃ m, m = l.length := ⟨_, rfl⟩
    have HM := Lib.hid hm
    rw [← hm] at k1 k3 k4 c2 hl254 H HP
    have hdt : decide ((m : Int) + 2 < 2) = false := decide_eq_false (by omega)
    have e1 : IntKind.i64.wrap ((m : Int) + 2 - 2) = (m : Int) := by rw [IntWalk.i64_in _ (by omega)]; omega
    have e2 : IntKind.i64.wrap ((m : Int) + 2 - 1) = (m : Int) + 1 := by rw [IntWalk.i64_in _ (by omega)]; omega
    clear h h0 hfz k6 k7 ha hv hr hm
    cases r with
    | none =>
      simp only [Option.getD_none, Option.isSome_none, Option.map_none] at HOP0 ⊢
      have HOP := Lib.hid HOP0
      clear HOP0
      go_enter Tryz.func44, Tryz.ntmps44
      go_wp2_with fail
      go_quiet ((first | exact Calls.quiet_of_same (HOP.out _)))
      go_wp2_with fail
      go_ret
      exact ⟨rfl, M, _, cv, iv, ov, H.out nq, rfl, below_drewN (Below.refl B w) nq⟩
    | some x =>
      simp only [Option.getD_some, Option.isSome_some, Option.map_some] at HOP0 ⊢
      have HOP := Lib.hid HOP0
      clear HOP0
      go_enter Tryz.func44, Tryz.ntmps44
      go_wp2_with fail
      go_quiet ((first | exact Calls.quiet_of_same (HOP.out _)))
      have hH := H.out nq
      have hP := HP.out nq
      have hBW : B ≤ (w.drewN nq).heap.size := hBw
      have hx0 : Below B w (w.drewN nq) := below_drewN (Below.refl B w) nq
      clear c0 c1 c2 c3 c4 c5 c6 k3 k4 H HP HOP
      generalize w.drewN nq = W at *
      obtain ⟨⟨c0, c1, c2, c3, c4, c5, c6⟩, hfz, hlt2⟩ := seven hH.1
      have f2 := hfz 2
      have hO := hP.data
      rw [show ({ M with data := l } : MS).data.length = m from HM.out.symm] at hO
      have HO := Lib.hid hO
      have HB := Lib.hid hH.1
      have HPP := Lib.hid hP
      have HX := Lib.hid hx0
      have hBb := hH.2.1
      obtain ⟨i0, hi, hz0, hz1, hz2⟩ := info_parts u32InfoM
      clear hH hP hfz hO hx0 e2 hdt
      go_wp2_with (at_builtin; refine wpList_append_own_at _ rfl (.tmp 91) (.tmp 93) _ rfl B 23 i0 _ 1 4 Tryz.underlying44 hi hz0 hz1 hz2 rfl (by omega) _ _ _ rfl (HO.out.alloc _) ⟨W.heap.size, 0, none⟩ 1 1 [.int .u32 (x : Int)] rfl rfl (cell_one_new _ _ _) ?k1 ?k2 ?k3 ?k4 ?_)
      case k1 => first | rfl | (intro u hu; simp at hu; subst hu; rfl)
      case k2 => unfold maxLen; omega
      case k3 => omega
      case k4 => first | omega | (simp; omega)
      intro dv' w2 hown2 hgr _ hat
      obtain ⟨A2, cd2, rfl, -⟩ := Lst.of_own hown2
      obtain ⟨hb2, hr2, hx2⟩ := ref_data_push HB.out hBb HPP.out _ hgr hBW (v := x) (by rw [← HM.out]; exact hown2) hat
      obtain ⟨⟨d0, d1, d2, d3, d4, d5, d6⟩, hfz2, hlt3⟩ := seven hb2
      have g2 := hfz2 2
      have HR2 := Lib.hid hr2
      have HX2 := Lib.hid (HX.out.trans hx2)
      clear hb2 hr2 hx2 hfz2 hown2 hgr hat c0 c1 c2 c3 c4 c5 c6 HO HB HPP f2
      go_wp2_with fail
      go_ret
      exact ⟨rfl, _, cv, iv, ov, HR2.out, HX2.out⟩
set_option maxRecDepth 100000 in
set_option maxHeartbeats 3200000 in
theorem step_94 (B b bm : Nat) (M : MS) (dv cv iv ov : Value) (w : World) (h : RefM w B b bm M dv cv iv ov) (ok : M.Ok) (hBw : B ≤ w.heap.size) :
    Calls Tryz.prog 44 #[.pointer (some ⟨b, 0, none⟩), .int .u32 94] w (SPost B b bm M (stepS M 94) w) := by
  obtain ⟨⟨c0, c1, c2, c3, c4, c5, c6⟩, hfz, hlt⟩ := seven h.1
  have hd := ok.dlen
  rcases two_ends (M := M) with h0 | ⟨l, v, a, h0⟩
  · have hl2 := less_two h0
    rw [stepS_bin_no (by decide) h0]
    have H := Lib.hid h
    obtain ⟨A, cd, rfl, hr, hm⟩ := h.len
    generalize M.data.length = m at *
    have hdt : decide ((m : Int) < 2) = true := decide_eq_true (by omega)
    clear h h0 hfz
    go_enter Tryz.func44, Tryz.ntmps44
    go_wp2_with fail
    go_ret
    exact ⟨rfl, M, _, cv, iv, ov, H.out, rfl, Below.refl B w⟩
  · have hl254 : l.length ≤ 254 := by rw [h0] at hd; simp at hd; omega
    rw [stepS_bin (by decide) h0 (by omega)]
    have ha : a < 4294967296 := ok.data a (by rw [h0]; simp)
    have hv : v < 4294967296 := ok.data v (by rw [h0]; simp)
    obtain ⟨g, cap, rfl, k1, k2, k3, k4, k5, k6, k7⟩ := h.2.2.two h0
    have H := Lib.hid (fun n => h.drewN n)
    have HP := Lib.hid (fun n => k6.drewN n)
    have HOP0 := fun W => (operate_any 94 v a W (by decide) hv ha).mono (fun e w' (q : _ ∧ _) => (⟨q.1, q.2.symm⟩ : _ ∧ w' = W))
    obtain ⟨r, hr⟩ : ∃ r, r = binS 94 v a := ⟨_, rfl⟩
    rw [← hr] at HOP0 ⊢
    obtain ⟨m, hm⟩ : ∃ m, m = l.length := ⟨_, rfl⟩
    have HM := Lib.hid hm
    rw [← hm] at k1 k3 k4 c2 hl254 H HP
    have hdt : decide ((m : Int) + 2 < 2) = false := decide_eq_false (by omega)
    have e1 : IntKind.i64.wrap ((m : Int) + 2 - 2) = (m : Int) := by rw [IntWalk.i64_in _ (by omega)]; omega
    have e2 : IntKind.i64.wrap ((m : Int) + 2 - 1) = (m : Int) + 1 := by rw [IntWalk.i64_in _ (by omega)]; omega
    clear h h0 hfz k6 k7 ha hv hr hm
    cases r with
    | none =>
      simp only [Option.getD_none, Option.isSome_none, Option.map_none] at HOP0 ⊢
      have HOP := Lib.hid HOP0
      clear HOP0
      go_enter Tryz.func44, Tryz.ntmps44
      go_wp2_with fail
      go_quiet ((first | exact Calls.quiet_of_same (HOP.out _)))
      go_wp2_with fail
      go_ret
      exact ⟨rfl, M, _, cv, iv, ov, H.out nq, rfl, below_drewN (Below.refl B w) nq⟩
    | some x =>
      simp only [Option.getD_some, Option.isSome_some, Option.map_some] at HOP0 ⊢
      have HOP := Lib.hid HOP0
      clear HOP0
      go_enter Tryz.func44, Tryz.ntmps44
      go_wp2_with fail
      go_quiet ((first | exact Calls.quiet_of_same (HOP.out _)))
      have hH := H.out nq
      have hP := HP.out nq
      have hBW : B ≤ (w.drewN nq).heap.size := hBw
      have hx0 : Below B w (w.drewN nq) := below_drewN (Below.refl B w) nq
      clear c0 c1 c2 c3 c4 c5 c6 k3 k4 H HP HOP
      generalize w.drewN nq = W at *
      obtain ⟨⟨c0, c1, c2, c3, c4, c5, c6⟩, hfz, hlt2⟩ := seven hH.1
      have f2 := hfz 2
      have hO := hP.data
      rw [show ({ M with data := l } : MS).data.length = m from HM.out.symm] at hO
      have HO := Lib.hid hO
      have HB := Lib.hid hH.1
      have HPP := Lib.hid hP
      have HX := Lib.hid hx0
      have hBb := hH.2.1
      obtain ⟨i0, hi, hz0, hz1, hz2⟩ := info_parts u32InfoM
      clear hH hP hfz hO hx0 e2 hdt
      go_wp2_with (at_builtin; refine wpList_append_own_at _ rfl (.tmp 91) (.tmp 93) _ rfl B 23 i0 _ 1 4 Tryz.underlying44 hi hz0 hz1 hz2 rfl (by omega) _ _ _ rfl (HO.out.alloc _) ⟨W.heap.size, 0, none⟩ 1 1 [.int .u32 (x : Int)] rfl rfl (cell_one_new _ _ _) ?k1 ?k2 ?k3 ?k4 ?_)
      case k1 => first | rfl | (intro u hu; simp at hu; subst hu; rfl)
      case k2 => unfold maxLen; omega
      case k3 => omega
      case k4 => first | omega | (simp; omega)
      intro dv' w2 hown2 hgr _ hat
      obtain ⟨A2, cd2, rfl, -⟩ := Lst.of_own hown2
      obtain ⟨hb2, hr2, hx2⟩ := ref_data_push HB.out hBb HPP.out _ hgr hBW (v := x) (by rw [← HM.out]; exact hown2) hat
      obtain ⟨⟨d0, d1, d2, d3, d4, d5, d6⟩, hfz2, hlt3⟩ := seven hb2
      have g2 := hfz2 2
      have HR2 := Lib.hid hr2
      have HX2 := Lib.hid (HX.out.trans hx2)
      clear hb2 hr2 hx2 hfz2 hown2 hgr hat c0 c1 c2 c3 c4 c5 c6 HO HB HPP f2
      go_wp2_with fail
      go_ret
      exact ⟨rfl, _, cv, iv, ov, HR2.out, HX2.out⟩
set_option maxRecDepth 100000 in
set_option maxHeartbeats 3200000 in
theorem step_60 (B b bm : Nat) (M : MS) (dv cv iv ov : Value) (w : World) (h : RefM w B b bm M dv cv iv ov) (ok : M.Ok) (hBw : B ≤ w.heap.size) :
    Calls Tryz.prog 44 #[.pointer (some ⟨b, 0, none⟩), .int .u32 60] w (SPost B b bm M (stepS M 60) w) := by
  obtain ⟨⟨c0, c1, c2, c3, c4, c5, c6⟩, hfz, hlt⟩ := seven h.1
  have hd := ok.dlen
  rcases two_ends (M := M) with h0 | ⟨l, v, a, h0⟩
  · have hl2 := less_two h0
    rw [stepS_bin_no (by decide) h0]
    have H := Lib.hid h
    obtain ⟨A, cd, rfl, hr, hm⟩ := h.len
    generalize M.data.length = m at *
    have hdt : decide ((m : Int) < 2) = true := decide_eq_true (by omega)
    clear h h0 hfz
    go_enter Tryz.func44, Tryz.ntmps44
    go_wp2_with fail
    go_ret
    exact ⟨rfl, M, _, cv, iv, ov, H.out, rfl, Below.refl B w⟩
  · have hl254 : l.length ≤ 254 := by rw [h0] at hd; simp at hd; omega
    rw [stepS_bin (by decide) h0 (by omega)]
    have ha : a < 4294967296 := ok.data a (by rw [h0]; simp)
    have hv : v < 4294967296 := ok.data v (by rw [h0]; simp)
    obtain ⟨g, cap, rfl, k1, k2, k3, k4, k5, k6, k7⟩ := h.2.2.two h0
    have H := Lib.hid (fun n => h.drewN n)
    have HP := Lib.hid (fun n => k6.drewN n)
    have HOP0 := fun W => (operate_any 60 v a W (by decide) hv ha).mono (fun e w' (q : _ ∧ _) => (⟨q.1, q.2.symm⟩ : _ ∧ w' = W))
    obtain ⟨r, hr⟩ : ∃ r, r = binS 60 v a := ⟨_, rfl⟩
    rw [← hr] at HOP0 ⊢
    obtain ⟨m, hm⟩ : ∃ m, m = l.length := ⟨_, rfl⟩
    have HM := Lib.hid hm
    rw [← hm] at k1 k3 k4 c2 hl254 H HP
    have hdt : decide ((m : Int) + 2 < 2) = false := decide_eq_false (by omega)
    have e1 : IntKind.i64.wrap ((m : Int) + 2 - 2) = (m : Int) := by rw [IntWalk.i64_in _ (by omega)]; omega
    have e2 : IntKind.i64.wrap ((m : Int) + 2 - 1) = (m : Int) + 1 := by rw [IntWalk.i64_in _ (by omega)]; omega
    clear h h0 hfz k6 k7 ha hv hr hm
    cases r with
    | none =>
      simp only [Option.getD_none, Option.isSome_none, Option.map_none] at HOP0 ⊢
      have HOP := Lib.hid HOP0
      clear HOP0
      go_enter Tryz.func44, Tryz.ntmps44
      go_wp2_with fail
      go_quiet ((first | exact Calls.quiet_of_same (HOP.out _)))
      go_wp2_with fail
      go_ret
      exact ⟨rfl, M, _, cv, iv, ov, H.out nq, rfl, below_drewN (Below.refl B w) nq⟩
    | some x =>
      simp only [Option.getD_some, Option.isSome_some, Option.map_some] at HOP0 ⊢
      have HOP := Lib.hid HOP0
      clear HOP0
      go_enter Tryz.func44, Tryz.ntmps44
      go_wp2_with fail
      go_quiet ((first | exact Calls.quiet_of_same (HOP.out _)))
      have hH := H.out nq
      have hP := HP.out nq
      have hBW : B ≤ (w.drewN nq).heap.size := hBw
      have hx0 : Below B w (w.drewN nq) := below_drewN (Below.refl B w) nq
      clear c0 c1 c2 c3 c4 c5 c6 k3 k4 H HP HOP
      generalize w.drewN nq = W at *
      obtain ⟨⟨c0, c1, c2, c3, c4, c5, c6⟩, hfz, hlt2⟩ := seven hH.1
      have f2 := hfz 2
      have hO := hP.data
      rw [show ({ M with data := l } : MS).data.length = m from HM.out.symm] at hO
      have HO := Lib.hid hO
      have HB := Lib.hid hH.1
      have HPP := Lib.hid hP
      have HX := Lib.hid hx0
      have hBb := hH.2.1
      obtain ⟨i0, hi, hz0, hz1, hz2⟩ := info_parts u32InfoM
      clear hH hP hfz hO hx0 e2 hdt
      go_wp2_with (at_builtin; refine wpList_append_own_at _ rfl (.tmp 91) (.tmp 93) _ rfl B 23 i0 _ 1 4 Tryz.underlying44 hi hz0 hz1 hz2 rfl (by omega) _ _ _ rfl (HO.out.alloc _) ⟨W.heap.size, 0, none⟩ 1 1 [.int .u32 (x : Int)] rfl rfl (cell_one_new _ _ _) ?k1 ?k2 ?k3 ?k4 ?_)
      case k1 => first | rfl | (intro u hu; simp at hu; subst hu; rfl)
      case k2 => unfold maxLen; omega
      case k3 => omega
      case k4 => first | omega | (simp; omega)
      intro dv' w2 hown2 hgr _ hat
      obtain ⟨A2, cd2, rfl, -⟩ := Lst.of_own hown2
      obtain ⟨hb2, hr2, hx2⟩ := ref_data_push HB.out hBb HPP.out _ hgr hBW (v := x) (by rw [← HM.out]; exact hown2) hat
      obtain ⟨⟨d0, d1, d2, d3, d4, d5, d6⟩, hfz2, hlt3⟩ := seven hb2
      have g2 := hfz2 2
      have HR2 := Lib.hid hr2
      have HX2 := Lib.hid (HX.out.trans hx2)
      clear hb2 hr2 hx2 hfz2 hown2 hgr hat c0 c1 c2 c3 c4 c5 c6 HO HB HPP f2
      go_wp2_with fail
      go_ret
      exact ⟨rfl, _, cv, iv, ov, HR2.out, HX2.out⟩
theorem rstep_any (B b bm : Nat) (M : MS) (dv cv iv ov : Value) (w : World) (h : RefM w B b bm M dv cv iv ov) (ok : M.Ok) (hol : M.out.length ≤ 100000000) (hBw : B ≤ w.heap.size) (c : Nat) (hc : c < 4294967296) (h36 : c ≠ 36) :
    Calls Tryz.prog 44 #[.pointer (some ⟨b, 0, none⟩), .int .u32 (c : Int)] w (SPost B b bm M (stepS M c) w) := by
  by_cases h1 : isDig c = true
  · unfold isDig at h1
    simp at h1
    exact step_digit B b bm M dv cv iv ov w h ok hBw c h1.1 h1.2
  by_cases h2 : c = 32 ∨ c = 10
  · exact step_blank B b bm M dv cv iv ov w h c h2
  by_cases h3 : isBin c = true
  · rcases bin_of h3 with rfl | rfl | rfl | rfl | rfl | rfl | rfl
    · exact step_43 B b bm M dv cv iv ov w h ok hBw
    · exact step_45 B b bm M dv cv iv ov w h ok hBw
    · exact step_42 B b bm M dv cv iv ov w h ok hBw
    · exact step_47 B b bm M dv cv iv ov w h ok hBw
    · exact step_37 B b bm M dv cv iv ov w h ok hBw
    · exact step_94 B b bm M dv cv iv ov w h ok hBw
    · exact step_60 B b bm M dv cv iv ov w h ok hBw
  by_cases h4 : c = 64
  · subst h4; exact step_fetch B b bm M dv cv iv ov w h ok
  by_cases h5 : c = 33
  · subst h5; exact step_store B b bm M dv cv iv ov w h ok
  by_cases h6 : c = 63
  · subst h6; exact step_jump B b bm M dv cv iv ov w h ok
  by_cases h7 : c = 58
  · subst h7; exact step_call B b bm M dv cv iv ov w h ok hBw
  by_cases h8 : c = 59
  · subst h8; exact step_ret B b bm M dv cv iv ov w h ok
  by_cases h9 : c = 44
  · subst h9; exact step_in B b bm M dv cv iv ov w h ok hBw
  by_cases h10 : c = 46
  · subst h10; exact step_out B b bm M dv cv iv ov w h ok hol hBw
  have e1 : isDig c = false := by simpa using h1
  have e3 : isBin c = false := by simpa using h3
  have hn : stepS M c = none := by
    unfold stepS
    rw [if_neg h1, if_neg h2, if_neg h3, if_neg h4, if_neg h5, if_neg h6, if_neg h7, if_neg h8, if_neg h9, if_neg h10]
  rw [hn]
  exact step_other B b bm M dv cv iv ov w h ok c hc e1 h2 e3 h4 h5 h6 h7 h8 h9 h10
end Go.Proofs.YtjmglbppmolipaaGreatDoor
namespace Go.Proofs.YtjmglbppmolipaaGreatDoor
open Go.RowKit
open Go.Lib hiding intOf
set_option linter.unusedVariables false
set_option linter.unusedSimpArgs false

/-- the head of the reference's loop -/
structure RefInv (B b bm limit : Nat) (R : List UInt8 × Int × Nat) (V wr : World) (k : Nat) (M1 : MS) (dv cv iv ov : Value) : Prop where
  le : k ≤ limit
  lib : RefM wr B b bm M1 dv cv iv ov
  ok : M1.Ok
  out : M1.out.length ≤ k
  run : runS (limit - k) k M1 = R
  below : Below B V wr
theorem RefM.alloc {W : World} {B b bm : Nat} {M1 : MS} {dv cv iv ov : Value} (h : RefM W B b bm M1 dv cv iv ov) (hBW : B ≤ W.heap.size) (o : Obj) : RefM (W.alloc o) B b bm M1 dv cv iv ov := by
  obtain ⟨h1, h2, h3⟩ := h
  have hn : ∀ (T : TypeId) cs fz, W.heap[W.heap.size]? ≠ some (.cells cs T fz) := fun T cs fz e => by simp at e
  exact ⟨h1.alloc _, h2, h3.keep (b := W.heap.size) hBW (hn _) (hn _) (hn _) (Keep.alloc o)⟩
theorem RefM.mem_set {w : World} {B b bm : Nat} {M : MS} {dv cv iv ov : Value} (h : RefM w B b bm M dv cv iv ov) (a v : Nat) : RefM (w.setCell ⟨bm, a, none⟩ (.int .u32 (v : Int))) B b bm { M with mem := setM M.mem a v } dv cv iv ov := by
  have hne : b ≠ bm := fun e => by
    obtain ⟨arr, m1, -⟩ := h.2.2.mem
    rw [← e] at m1
    exact blk_not h.1 (by decide) _ _ m1
  refine ⟨?_, h.2.1, h.2.2.mem_set a v⟩
  show (World.heap _)[b]? = _
  rw [Below.heap_setCell _ _ _ _ hne]
  exact h.1
set_option maxRecDepth 100000 in
set_option maxHeartbeats 3200000 in
theorem RRun_big (at_ start : Nat) (code : ByteArray) (input : List Nat) (steps : Int) (bt ct : Nat) (A : Option Addr) (n c : Nat) (w : World)
    (h0 : w.cell? ⟨bt, 0, none⟩ = some (.int .i64 (at_ : Int))) (h1 : w.cell? ⟨bt, 1, none⟩ = some (.string code)) (hct : 1 ≤ ct) (hct2 : ct ≤ maxLen)
    (ha : at_ + code.size ≤ 262144) (hs : start < 262144) (hb : 100000000 < steps) :
    Calls Tryz.prog 24 #[.slice (some ⟨bt, 0, none⟩) 1 ct, .int .i64 (start : Int), .slice A n c, .int .i64 steps] w fun e w' => e = .returned (outV ([], 6, 0)) ∧ Ext w w' := by
  have d1 : decide ((start : Int) < 0) = false := decide_eq_false (by omega)
  have d2 : decide ((262144 : Int) ≤ (start : Int)) = false := decide_eq_false (by omega)
  have hbt := cell_lt h0
  unfold maxLen at hct2
  obtain ⟨w0, hw0⟩ : ∃ W, W = w.alloc (.cells #[.string ⟨#[]⟩, .int .i64 0, .int .i64 0] 28) := ⟨_, rfl⟩
  have hx0 : Ext w w0 := by rw [hw0]; exact (Ext.refl w).alloc _
  have HR0 : Hid (Blk w0 w.heap.size 28 [.string ⟨#[]⟩, .int .i64 0, .int .i64 0]) := by rw [hw0]; exact heap_alloc_new w _
  have e0 := hx0.cell h0
  have e1 := hx0.cell h1
  go_enter Tryz.func24, Tryz.ntmps24
  go_wp2_with fail
  rw [← hw0]
  go_loopw [26] (fun i wr => ∃ k : Nat, k ≤ 1 ∧ i = .int .i64 k ∧ Ext w0 wr) (fun i _ => 1 - (intOf i).toNat)
  case atStart => exact ⟨0, by omega, rfl, Ext.refl _⟩
  case round =>
    obtain ⟨k, hk, rfl, hx⟩ := hrel
    have g0 := hx.cell e0
    have g1 := hx.cell e1
    by_cases hk1 : k < 1
    · obtain rfl : k = 0 := by omega
      have t1 : decide ((at_ : Int) < 0) = false := decide_eq_false (by omega)
      have t2 : decide ((262144 : Int) < (at_ : Int)) = false := decide_eq_false (by omega)
      have t3 : decide (262144 - (at_ : Int) < (code.size : Int)) = false := decide_eq_false (by omega)
      go_wp2_with fail
      go_roundw
      case rel => exact ⟨1, by omega, by go_num, hx.alloc _⟩
      case measure => simp [intOf]
    · obtain rfl : k = 1 := by omega
      have b1 := HR0.out.ext hx
      have hfz := blk_frozen b1
      have q0 := b1.cell (i := 0) rfl
      have q1 := b1.cell (i := 1) rfl
      have q2 := b1.cell (i := 2) rfl
      have hx1 := hx0.trans hx
      have hz0 := hfz 0
      have hz1 := hfz 1
      have hz2 := hfz 2
      clear hfz b1
      have s1 : decide ((100000000 : Int) < steps) = true := decide_eq_true hb
      clear hb
      go_wp2_with fail
      exact bodyPost_ret (v := outV ([], 6, 0)) (by unfold outV; simp [results, Tryz.results24, go_sem, q0, q1, q2, BA]) rfl ⟨rfl, ((hx1.set (Nat.le_refl _) _).set (Nat.le_refl _) _).set (Nat.le_refl _) _⟩
set_option maxRecDepth 100000 in
set_option maxHeartbeats 6400000 in
theorem RRun_go (at_ start : Nat) (code : ByteArray) (input : List Nat) (steps : Int) (bt ct : Nat) (A : Option Addr) (n c : Nat) (w : World)
    (h0 : w.cell? ⟨bt, 0, none⟩ = some (.int .i64 (at_ : Int))) (h1 : w.cell? ⟨bt, 1, none⟩ = some (.string code)) (hct : 1 ≤ ct) (hct2 : ct ≤ maxLen)
    (hl : Lst w A n c (u32V input)) (hA : ∀ p, A = some p → p.block < w.heap.size) (hin : ∀ x ∈ input, x < 4294967296) (hin2 : input.length ≤ 1000000) (ha : at_ + code.size ≤ 262144) (hs : start < 262144) (hb : ¬ 100000000 < steps) (limit : Nat) (hlim : limit = steps.toNat) :
    Calls Tryz.prog 24 #[.slice (some ⟨bt, 0, none⟩) 1 ct, .int .i64 (start : Int), .slice A n c, .int .i64 steps] w fun e w' => e = .returned (outV ((runS limit 0 (m0 at_ code.data.toList start input)).1, (runS limit 0 (m0 at_ code.data.toList start input)).2.1, ((runS limit 0 (m0 at_ code.data.toList start input)).2.2 : Int))) ∧ Ext w w' := by
  obtain ⟨R, hR⟩ : ∃ R, R = runS limit 0 (m0 at_ code.data.toList start input) := ⟨_, rfl⟩
  rw [← hR]
  have HSl := Lib.hid (show limit ≤ 100000000 by omega)
  have s1 : decide ((100000000 : Int) < steps) = false := decide_eq_false (by omega)
  have HR := Lib.hid hR
  have HLIM := Lib.hid hlim
  have hsb : steps ≤ 100000000 := by omega
  clear hb hR hlim
  have d1 : decide ((start : Int) < 0) = false := decide_eq_false (by omega)
  have d2 : decide ((262144 : Int) ≤ (start : Int)) = false := decide_eq_false (by omega)
  have hbt := cell_lt h0
  unfold maxLen at hct2
  obtain ⟨w0, hw0⟩ : ∃ W, W = w.alloc (.cells #[.string ⟨#[]⟩, .int .i64 0, .int .i64 0] 28) := ⟨_, rfl⟩
  have hx0 : Ext w w0 := by rw [hw0]; exact (Ext.refl w).alloc _
  have HR0 : Hid (Blk w0 w.heap.size 28 [.string ⟨#[]⟩, .int .i64 0, .int .i64 0]) := by rw [hw0]; exact heap_alloc_new w _
  have e0 := hx0.cell h0
  have e1 := hx0.cell h1
  go_enter Tryz.func24, Tryz.ntmps24
  go_wp2_with fail
  rw [← hw0]
  go_loopw [26] (fun i wr => ∃ k : Nat, k ≤ 1 ∧ i = .int .i64 k ∧ Ext w0 wr) (fun i _ => 1 - (intOf i).toNat)
  case atStart => exact ⟨0, by omega, rfl, Ext.refl _⟩
  case round =>
    obtain ⟨k, hk, rfl, hx⟩ := hrel
    have g0 := hx.cell e0
    have g1 := hx.cell e1
    by_cases hk1 : k < 1
    · obtain rfl : k = 0 := by omega
      have t1 : decide ((at_ : Int) < 0) = false := decide_eq_false (by omega)
      have t2 : decide ((262144 : Int) < (at_ : Int)) = false := decide_eq_false (by omega)
      have t3 : decide (262144 - (at_ : Int) < (code.size : Int)) = false := decide_eq_false (by omega)
      go_wp2_with fail
      go_roundw
      case rel => exact ⟨1, by omega, by go_num, hx.alloc _⟩
      case measure => simp [intOf]
    · obtain rfl : k = 1 := by omega
      rw [show (((1 : Nat)) : Int) = 1 from rfl]
      have hx1 := hx0.trans hx
      have hmk := make_mem
      have hst : (start : Int) % 4294967296 = (start : Int) := by omega
      obtain ⟨V, hV⟩ : ∃ V, V = wr := ⟨_, rfl⟩
      subst hV
      obtain ⟨B, hB⟩ : ∃ B, B = V.heap.size := ⟨_, rfl⟩
      have hwB : w.heap.size < B := by rw [hB]; have := hx.size; rw [hw0] at this; simp at this; omega
      obtain ⟨w1, hw1⟩ : ∃ W, W = (V.alloc (.cells memZ 23)).alloc (.cells #[.slice (some ⟨V.heap.size, 0, none⟩) 262144 262144, .int .u32 (start : Int), .slice none 0 0, .slice none 0 0, .slice A n c, .slice none 0 0, .bool false] 88) := ⟨_, rfl⟩
      have hxw : Ext V w1 := by rw [hw1]; exact ((Ext.refl V).alloc _).alloc _
      have hsz1 : (V.alloc (.cells memZ 23)).heap.size = V.heap.size + 1 := by simp
      have hbk := heap_alloc_new (V.alloc (.cells memZ 23)) (.cells #[.slice (some ⟨V.heap.size, 0, none⟩) 262144 262144, .int .u32 (start : Int), .slice none 0 0, .slice none 0 0, .slice A n c, .slice none 0 0, .bool false] 88)
      rw [hsz1, ← hw1] at hbk
      have hmm : w1.heap[V.heap.size]? = some (.cells memZ 23 (0, 0)) := by rw [hw1, Below.heap_alloc _ _ _ (by rw [hsz1]; omega)]; exact heap_alloc_new V _
      have hL0 : RefM w1 B (V.heap.size + 1) V.heap.size (m0 at_ (code.data.toList.take 0) start input) (.slice none 0 0) (.slice none 0 0) (.slice A n c) (.slice none 0 0) := by
        refine ⟨hbk, by omega, ⟨by omega, ⟨memZ, hmm, memZ_size, fun i hi => ?_⟩, ⟨rfl, .inl ⟨rfl, rfl⟩⟩, ⟨rfl, .inl ⟨rfl, rfl⟩⟩, ⟨rfl, .inl ⟨rfl, rfl⟩⟩, ⟨A, n, c, rfl, (hl.ext (hx1.trans hxw)), fun p e => by have := hA p e; omega⟩, by simp [Value.ownBlock], by simp [Value.ownBlock], fun g e => by simp [Value.ownBlock] at e, fun k x e => by cases e⟩⟩
        rw [memZ_get i hi]
        show _ = some (Value.int .u32 ((memT at_ [] i : Nat) : Int))
        rw [memT_nil]
        rfl
      have HL0 := Lib.hid hL0
      have hx2 : Below B V w1 := by rw [hB]; exact hxw
      have HX2 := Lib.hid hx2
      have HB0 := Lib.hid hB
      have hp0 := hx2.cell (p := ⟨bt, 0, none⟩) (by show bt < B; omega)
      have HX1 := Lib.hid hx1
      clear hL0 hx2 hB hxw hx1 hbk hmm hsz1
      go_wp2_with fail
      rw [← hw1]
      obtain ⟨b, hbd⟩ : ∃ b, b = V.heap.size + 1 := ⟨_, rfl⟩
      obtain ⟨bm, hbmd⟩ : ∃ b, b = V.heap.size := ⟨_, rfl⟩
      rw [← hbd] at HL0 ⊢
      rw [← hbmd] at HL0
      have HBD := Lib.hid hbd
      clear hbd hbmd hw1 hst
      have HBR : Hid (Blk V w.heap.size 28 [.string ⟨#[]⟩, .int .i64 0, .int .i64 0]) := HR0.out.ext hx
      go_loopw [59] (fun i W => ∃ k : Nat, k ≤ 1 ∧ i = .int .i64 k ∧ RefM W B b bm (m0 at_ (code.data.toList.take (k * code.size)) start input) (.slice none 0 0) (.slice none 0 0) (.slice A n c) (.slice none 0 0) ∧ Below B V W) (fun i _ => 1 - (intOf i).toNat)
      case atStart => exact ⟨0, by omega, rfl, by rw [Nat.zero_mul]; exact HL0.out, HX2.out⟩
      case round =>
        obtain ⟨k2, hk2, rfl, hLk, hxk⟩ := hrel
        have hbtB : bt < B := by omega
        have f0 := (hxk.cell (p := ⟨bt, 0, none⟩) hbtB).trans g0
        have f1 := (hxk.cell (p := ⟨bt, 1, none⟩) hbtB).trans g1
        by_cases hk3 : k2 < 1
        · obtain rfl : k2 = 0 := by omega
          rw [Nat.zero_mul] at hLk
          have HLk := Lib.hid (hLk.alloc (by have := hxk.size; rw [← HB0.out] at this; exact this) (.cells #[.int .i64 (at_ : Int), .string code] 50))
          have HXk := Lib.hid (hxk.alloc (by have := hxk.size; rw [← HB0.out] at this; exact this) (.cells #[.int .i64 (at_ : Int), .string code] 50))
          have HTb : Hid (Blk (wr.alloc (.cells #[.int .i64 (at_ : Int), .string code] 50)) wr.heap.size 50 [.int .i64 (at_ : Int), .string code]) := heap_alloc_new wr _
          obtain ⟨tb, htb⟩ : ∃ tb, tb = wr.heap.size := ⟨_, rfl⟩
          have hbm : Hid (tb ≠ bm ∧ tb ≠ b) := by
            obtain ⟨arr, m1, -⟩ := hLk.2.2.mem
            exact ⟨fun e => by rw [← e, htb] at m1; simp at m1, fun e => by have := hLk.1.lt; omega⟩
          clear hLk hxk
          go_wp2_with fail
          rw [← htb] at HTb ⊢
          obtain ⟨W0, hW0⟩ : ∃ W, W = wr.alloc (.cells #[.int .i64 (at_ : Int), .string code] 50) := ⟨_, rfl⟩
          rw [← hW0] at HLk HXk HTb ⊢
          clear hW0 htb f0 f1
          have HH : Hid (0 ≤ code.size) := Nat.zero_le _
          go_loopw [14] (fun i W => ∃ j : Nat, j ≤ code.size ∧ i = .int .i64 j ∧ RefM W B b bm (m0 at_ (code.data.toList.take j) start input) (.slice none 0 0) (.slice none 0 0) (.slice A n c) (.slice none 0 0) ∧ Below B V W ∧ Blk W tb 50 [.int .i64 (at_ : Int), .string code]) (fun i _ => code.size - (intOf i).toNat)
          case atStart => exact ⟨0, by omega, rfl, HLk.out, HXk.out, HTb.out⟩
          case round =>
            obtain ⟨j, hj, rfl, hLj, hxj, hbj⟩ := hrel
            by_cases hjz : j < code.size
            · obtain ⟨⟨c0, c1, c2, c3, c4, c5, c6⟩, -, -⟩ := seven hLj.1
              obtain ⟨m1, m2⟩ := hLj.2.2.mem.cell (i := at_ + j) (by omega)
              have t0 := hbj.cell (i := 0) rfl
              have t1 := hbj.cell (i := 1) rfl
              have hsz : code.data.toList.length = code.size := by simp
              have hstep := hLj.mem_set (at_ + j) (code.data.toList[j]).toNat
              rw [m0_step at_ code.data.toList start input j (by omega)] at hstep
              have hcj : (code.data.toList[j]).toNat = code[j].toNat := rfl
              rw [hcj] at hstep
              have HS := Lib.hid hstep
              have HXJ := Lib.hid hxj
              have HBJ := Lib.hid hbj
              have HJ := Lib.hid hLj
              have hat : IntKind.i64.wrap ((at_ : Int) + (j : Int)) = (at_ : Int) + (j : Int) := IntWalk.i64_in _ (by omega)
              have hat2 : ((at_ : Int) + (j : Int)).toNat = at_ + j := by omega
              have hat3 : 0 ≤ (at_ : Int) + (j : Int) := by omega
              have hat4 : (at_ : Int) + (j : Int) < 262144 := by omega
              have hcm : (code[j].toNat : Int) % 4294967296 = (code[j].toNat : Int) := by have := code[j].toNat_lt; omega
              clear hstep hcj hLj hxj hbj hsz
              go_wp2_with fail
              go_region
              go_wp2_with fail
              go_roundw
              case rel =>
                exact ⟨j + 1, by omega, by go_num, HS.out.drew, (HXJ.out.setCell HJ.out.2.2.hbm _).drew, HBJ.out.set_ne hbm.out.1⟩
              case measure => simp [intOf]; omega
            · obtain rfl : j = code.size := by omega
              have t0 := hbj.cell (i := 0) rfl
              have t1 := hbj.cell (i := 1) rfl
              clear hbj
              go_wp2_with fail
              go_roundw
              case rel => exact ⟨1, by omega, by go_num, by rw [Nat.one_mul]; exact hLj, hxj⟩
              case measure => simp [intOf]
        · obtain rfl : k2 = 1 := by omega
          rw [show (((1 : Nat)) : Int) = 1 from rfl]
          rw [Nat.one_mul, List.take_of_length_le (by simp)] at hLk
          have hok : (m0 at_ code.data.toList start input).Ok := ⟨memT_lt at_ _, (by show start < 4294967296; omega), (fun v hv => (by cases hv)), (fun v hv => (by cases hv)), hin, Nat.zero_le _, Nat.zero_le _, hin2, (fun h => (by cases h))⟩
          have HI0 := Lib.hid (show RefInv B b bm limit R V wr 0 (m0 at_ code.data.toList start input) (.slice none 0 0) (.slice none 0 0) (.slice A n c) (.slice none 0 0) from ⟨Nat.zero_le _, hLk, hok, Nat.zero_le _, HR.out.symm, hxk⟩)
          clear hLk hxk hok f0 f1 g0 g1 e0 e1 h0 h1 hl hA hin hp0
          go_wp2_with fail
          go_loopw [15] (fun i W => ∃ (k : Nat) (M1 : MS) (dv cv iv ov : Value), i = .int .i64 ((k : Int) + 1) ∧ RefInv B b bm limit R V W k M1 dv cv iv ov) (fun i _ => limit + 1 - (intOf i).toNat)
          case atStart => exact ⟨0, _, _, _, _, _, rfl, HI0.out⟩
          case round =>
            obtain ⟨k, M1, dv1, cv1, iv1, ov1, rfl, hI⟩ := hrel
            obtain ⟨⟨c0, c1, c2, c3, c4, c5, c6⟩, hfz, hlt⟩ := seven hI.lib.1
            have f1 := hfz 1
            have hkl := hI.le
            have hlim := HLIM.out
            have hl8 := HSl.out
            by_cases hk : k < limit
            · have hrun := hI.run
              rw [runS_succ hk] at hrun
              have hdk : decide ((k : Int) + 1 ≤ steps) = true := decide_eq_true (by omega)
              have hpc := hI.ok.pc
              have hkk : k ≤ 100000000 := by omega
              by_cases hpp : 262144 ≤ M1.pc
              · rw [if_pos hpp] at hrun
                have hdt : decide ((262144 : Int) ≤ (M1.pc : Int)) = true := decide_eq_true (by omega)
                have hcv := conv_bytes hI.lib.2.2.out rfl
                have b2 : Blk wr w.heap.size 28 [.string ⟨#[]⟩, .int .i64 0, .int .i64 0] := by
                  have h := HBR.out
                  unfold Blk at h ⊢
                  rw [(hI.below).block _ hwB]
                  exact h
                have p0 := b2.cell (i := 0) rfl
                have p1 := b2.cell (i := 1) rfl
                have p2 := b2.cell (i := 2) rfl
                have y0 := blk_frozen b2 0
                have y1 := blk_frozen b2 1
                have y2 := blk_frozen b2 2
                clear b2
                have HX := Lib.hid hI.below
                clear hI hfz hlim hl8 hpp hk
                subst hrun
                go_wp2_with fail
                exact bodyPost_ret (v := outV (M1.out, 12, ((k + 1 : Nat) : Int))) (by unfold outV; simp [results, Tryz.results24, go_sem, p0, p1, p2]) rfl ⟨rfl, (((HX1.out.trans (show Ext V _ by have h := HX.out; rw [HB0.out] at h; exact h)).set (Nat.le_refl _) _).set (Nat.le_refl _) _).set (Nat.le_refl _) _⟩
              · rw [if_neg hpp] at hrun
                have hdt : decide ((262144 : Int) ≤ (M1.pc : Int)) = false := decide_eq_false (by omega)
                have hpi : (M1.pc : Int) < 262144 := by omega
                obtain ⟨hm1, -⟩ := hI.lib.2.2.mem.cell (i := M1.pc) (by omega)
                have hmv := hI.ok.mem M1.pc
                obtain ⟨c, hc⟩ : ∃ c, c = M1.mem M1.pc := ⟨_, rfl⟩
                rw [← hc] at hm1 hrun hmv
                have HCC := Lib.hid hc
                clear hc
                by_cases h36 : c = 36
                · rw [if_pos h36] at hrun
                  subst h36
                  have hcv := conv_bytes hI.lib.2.2.out rfl
                  have b2 : Blk wr w.heap.size 28 [.string ⟨#[]⟩, .int .i64 0, .int .i64 0] := by
                    have h := HBR.out
                    unfold Blk at h ⊢
                    rw [(hI.below).block _ hwB]
                    exact h
                  have p0 := b2.cell (i := 0) rfl
                  have p1 := b2.cell (i := 1) rfl
                  have p2 := b2.cell (i := 2) rfl
                  have y0 := blk_frozen b2 0
                  have y1 := blk_frozen b2 1
                  have y2 := blk_frozen b2 2
                  clear b2
                  have HX := Lib.hid hI.below
                  clear hI hfz hlim hl8 hpp hk
                  subst hrun
                  go_wp2_with fail
                  exact bodyPost_ret (v := outV (M1.out, 0, ((k + 1 : Nat) : Int))) (by unfold outV; simp [results, Tryz.results24, go_sem, p0, p1, p2]) rfl ⟨rfl, (((HX1.out.trans (show Ext V _ by have h := HX.out; rw [HB0.out] at h; exact h)).set (Nat.le_refl _) _).set (Nat.le_refl _) _).set (Nat.le_refl _) _⟩
                · rw [if_neg h36] at hrun
                  have hce : ((c : Int) == 36) = false := by simp; omega
                  have hL1 := hI.lib.cell (M' := { M1 with pc := M1.pc + 1 }) 1 (.int .u32 ((M1.pc : Int) + 1)) rfl (hI.lib.2.2.same rfl rfl rfl rfl rfl)
                  have hB1 : Below B V (wr.setCell ⟨b, 1, none⟩ (.int .u32 ((M1.pc : Int) + 1))) := hI.below.setCell hI.lib.2.1 _
                  have hok1 : ({ M1 with pc := M1.pc + 1 } : MS).Ok := ⟨hI.ok.mem, by show M1.pc + 1 < _; omega, hI.ok.data, hI.ok.calls, hI.ok.input, hI.ok.dlen, hI.ok.clen, hI.ok.ilen, hI.ok.dig⟩
                  have hol : M1.out.length ≤ k := hI.out
                  have hst := rstep_any B b bm { M1 with pc := M1.pc + 1 } dv1 cv1 iv1 ov1 _ hL1 hok1 (by show M1.out.length ≤ _; omega) (by have := hB1.size; rw [← HB0.out] at this; exact this) c hmv h36
                  have HST := Lib.hid hst
                  have HB1 := Lib.hid hB1
                  have HRun := Lib.hid hrun
                  have HOK1 := Lib.hid hok1
                  have HMV := Lib.hid hmv
                  clear hst hB1 hL1 hrun hI hfz hlim hl8 hpp h36 hok1
                  go_wp2_with fail
                  refine HST.out.mono ?_
                  intro e w2 hpost
                  cases hsc : stepS { M1 with pc := M1.pc + 1 } c with
                  | none =>
                    rw [hsc] at hpost
                    obtain ⟨rfl, M', dv2, cv2, iv2, ov2, h2, ho2, hb2⟩ := hpost
                    have hrun := HRun.out
                    rw [hsc] at hrun
                    have hcv := conv_bytes h2.2.2.out rfl
                    have ho : M'.out = M1.out := ho2
                    rw [ho] at hcv
                    have hx := HB1.out.trans hb2
                    obtain ⟨⟨d0, d1', d2', d3, d4, d5, d6⟩, -, -⟩ := seven h2.1
                    have b3 : Blk w2 w.heap.size 28 [.string ⟨#[]⟩, .int .i64 0, .int .i64 0] := by
                      have h := HBR.out
                      unfold Blk at h ⊢
                      rw [(hx).block _ hwB]
                      exact h
                    have p0 := b3.cell (i := 0) rfl
                    have p1 := b3.cell (i := 1) rfl
                    have p2 := b3.cell (i := 2) rfl
                    have y0 := blk_frozen b3 0
                    have y1 := blk_frozen b3 1
                    have y2 := blk_frozen b3 2
                    clear b3
                    have HX := Lib.hid hx
                    clear h2 ho2 ho hb2 hx hsc c0 c1 c2 c3 c4 c5 c6 f1 hm1
                    dsimp only at hrun
                    subst hrun
                    go_wp2_with fail
                    exact bodyPost_ret (v := outV (M1.out, 12, ((k + 1 : Nat) : Int))) (by unfold outV; simp [results, Tryz.results24, go_sem, p0, p1, p2]) rfl ⟨rfl, (((HX1.out.trans (show Ext V _ by have h := HX.out; rw [HB0.out] at h; exact h)).set (Nat.le_refl _) _).set (Nat.le_refl _) _).set (Nat.le_refl _) _⟩
                  | some M' =>
                    rw [hsc] at hpost
                    obtain ⟨rfl, dv2, cv2, iv2, ov2, h2, hb2⟩ := hpost
                    have hrun := HRun.out
                    rw [hsc] at hrun
                    dsimp only at hrun
                    obtain ⟨g1, g2, g3⟩ := step_fit HOK1.out HMV.out hsc
                    have hol2 : M'.out.length ≤ k + 1 := by have : ({ M1 with pc := M1.pc + 1 } : MS).out.length = M1.out.length := rfl; omega
                    have hx := HB1.out.trans hb2
                    obtain ⟨⟨d0, d1', d2', d3, d4, d5, d6⟩, hfz2, hlt2⟩ := seven h2.1
                    have f6 := hfz2 6
                    have H2 := Lib.hid h2
                    have hk1 : k + 1 ≤ limit := by omega
                    have hend : ∀ v, isDig c = v → ∃ (k' : Nat) (M1 : MS) (dv cv iv ov : Value), Value.int .i64 ((k : Int) + 1 + 1) = .int .i64 ((k' : Int) + 1) ∧ RefInv B b bm limit R V (w2.setCell ⟨b, 6, none⟩ (.bool v)) k' M1 dv cv iv ov := by
                      rintro v rfl
                      have hL := H2.out.cell (M' := { M' with digit := isDig c }) 6 (.bool (isDig c)) rfl (H2.out.2.2.same rfl rfl rfl rfl rfl)
                      exact ⟨k + 1, { M' with digit := isDig c }, dv2, cv2, iv2, ov2, by go_num, ⟨hk1, hL, g1.ok _ g3, hol2, hrun, hx.setCell H2.out.2.1 _⟩⟩
                    have HEnd := Lib.hid hend
                    clear hend hx hrun g1 g2 g3 h2 hb2 hsc hfz2 c0 c1 c2 c3 c4 c5 c6 f1 hm1
                    have hsp : c < 48 ∨ (48 ≤ c ∧ c ≤ 57) ∨ 57 < c := by omega
                    rcases hsp with hs1 | ⟨hs1, hs2⟩ | hs1
                    · have e1 : decide ((48 : Int) ≤ (c : Int)) = false := decide_eq_false (by omega)
                      have HD := Lib.hid (show isDig c = false by unfold isDig; rw [decide_eq_false (by omega)]; rfl)
                      go_wp2_with fail
                      go_roundw
                      case rel => exact HEnd.out _ HD.out
                      case measure => simp [intOf]; omega
                    · have e1 : decide ((48 : Int) ≤ (c : Int)) = true := decide_eq_true (by omega)
                      have e2 : decide ((c : Int) ≤ 57) = true := decide_eq_true (by omega)
                      have HD := Lib.hid (show isDig c = true by unfold isDig; rw [decide_eq_true (by omega), decide_eq_true (by omega)]; rfl)
                      go_wp2_with fail
                      go_roundw
                      case rel => exact HEnd.out _ HD.out
                      case measure => simp [intOf]; omega
                    · have e1 : decide ((48 : Int) ≤ (c : Int)) = true := decide_eq_true (by omega)
                      have e2 : decide ((c : Int) ≤ 57) = false := decide_eq_false (by omega)
                      have HD := Lib.hid (show isDig c = false by unfold isDig; rw [decide_eq_false (show ¬ c ≤ 57 by omega)]; simp)
                      go_wp2_with fail
                      go_roundw
                      case rel => exact HEnd.out _ HD.out
                      case measure => simp [intOf]; omega
            · obtain rfl : k = limit := by omega
              have hrun := hI.run
              rw [Nat.sub_self] at hrun
              have hrun : (M1.out, (13 : Int), k) = R := hrun
              have hdk : decide ((k : Int) + 1 ≤ steps) = false := decide_eq_false (by omega)
              have hcv := conv_bytes hI.lib.2.2.out rfl
              have b2 : Blk wr w.heap.size 28 [.string ⟨#[]⟩, .int .i64 0, .int .i64 0] := by
                have h := HBR.out
                unfold Blk at h ⊢
                rw [(hI.below).block _ hwB]
                exact h
              have p0 := b2.cell (i := 0) rfl
              have p1 := b2.cell (i := 1) rfl
              have p2 := b2.cell (i := 2) rfl
              have y0 := blk_frozen b2 0
              have y1 := blk_frozen b2 1
              have y2 := blk_frozen b2 2
              clear b2
              have HX := Lib.hid hI.below
              clear hI hfz
              subst hrun
              by_cases hs0 : steps < 0
              · have hk0 : Hid (k = 0) := by show _ = _; omega
                have hdt : decide (steps < 0) = true := decide_eq_true hs0
                clear hlim hl8 hs0 hk hkl hsb s1
                go_wp2_with fail
                exact bodyPost_ret (v := outV (M1.out, 13, 0)) (by unfold outV; simp [results, Tryz.results24, go_sem, p0, p1, p2]) rfl ⟨by rw [hk0.out]; rfl, (((HX1.out.trans (show Ext V _ by have h := HX.out; rw [HB0.out] at h; exact h)).set (Nat.le_refl _) _).set (Nat.le_refl _) _).set (Nat.le_refl _) _⟩
              · have hdt : decide (steps < 0) = false := decide_eq_false hs0
                have hks : Hid (steps = (k : Int)) := by show _ = _; omega
                clear hlim hl8 hs0 hk hkl hsb s1
                go_wp2_with fail
                rw [hks.out] at *
                exact bodyPost_ret (v := outV (M1.out, 13, (k : Int))) (by unfold outV; simp [results, Tryz.results24, go_sem, p0, p1, p2]) rfl ⟨rfl, (((HX1.out.trans (show Ext V _ by have h := HX.out; rw [HB0.out] at h; exact h)).set (Nat.le_refl _) _).set (Nat.le_refl _) _).set (Nat.le_refl _) _⟩
/-- the reference's Run over one text -/
theorem RRun_any (at_ start : Nat) (code : ByteArray) (input : List Nat) (steps : Int) (bt ct : Nat) (A : Option Addr) (n c : Nat) (w : World)
    (h0 : w.cell? ⟨bt, 0, none⟩ = some (.int .i64 (at_ : Int))) (h1 : w.cell? ⟨bt, 1, none⟩ = some (.string code)) (hct : 1 ≤ ct) (hct2 : ct ≤ maxLen)
    (hl : Lst w A n c (u32V input)) (hA : ∀ p, A = some p → p.block < w.heap.size) (hin : ∀ x ∈ input, x < 4294967296) (hin2 : input.length ≤ 1000000) (ha : at_ + code.size ≤ 262144) (hs : start < 262144) :
    Calls Tryz.prog 24 #[.slice (some ⟨bt, 0, none⟩) 1 ct, .int .i64 (start : Int), .slice A n c, .int .i64 steps] w fun e w' => e = .returned (outV (runO at_ code.data.toList start input steps)) ∧ Ext w w' := by
  unfold runO
  by_cases hb : 100000000 < steps
  · rw [if_pos hb]; exact RRun_big at_ start code input steps bt ct A n c w h0 h1 hct hct2 ha hs hb
  rw [if_neg hb]
  have h := RRun_go at_ start code input steps bt ct A n c w h0 h1 hct hct2 hl hA hin hin2 ha hs hb steps.toNat rfl
  by_cases hb2 : steps ≤ 0
  · rw [if_pos hb2]
    rw [show steps.toNat = 0 by omega] at h
    exact h
  · rw [if_neg hb2]
    exact h
end Go.Proofs.YtjmglbppmolipaaGreatDoor
