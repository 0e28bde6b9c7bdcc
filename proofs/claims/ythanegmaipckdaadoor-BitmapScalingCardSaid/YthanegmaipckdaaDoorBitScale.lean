/- The contract of bitmap.Scale (layer 52). -/
import Derived.Test.YthanegmaipckdaaDoorBitCompress
import Derived.Test.YthanegmaipckdaaDoorBitParse
import Derived.Test.YthanegmaipckdaaDoorBitScaleP
import Derived.Test.YthanegmaipckdaaDoorBitRefExp
import Derived.Test.YthanegmaipckdaaDoorGrow
import Derived.IntWalk
import Derived.Lib.OthersKept
import Derived.Deep.QuietTactic
import Derived.BigQuiet
namespace Go.Proofs.YthanegmaipckdaaDoor
open Go.RowKit Go.Shelf
open Go.Lib hiding intOf
set_option linter.unusedVariables false
attribute [local go_sem] Oper.semAt_some

/-- the marks that loops over iterators have left -/
def Marks (base : Nat) (ds : List Nat) (W : World) : Prop := ds.Nodup ∧ ∀ D ∈ ds, base ≤ D ∧ D < W.heap.size ∧ W.heap[D]? = some (.deferred (some []))
def marksD (ds : List Nat) : List Deferred := ds.map fun D => { target := .collected D, args := #[] }
theorem leaves_marks {F : Fence} {n : Nat} {P : Program} {fn : Func} {tmps : Array Value} {R : Ending → World → Prop} {base : Nat} {w : World} (hb : w.heap.size ≤ base) : ∀ (ds : List Nat) (W : World),
    Marks base ds W → Ext w W → (∀ W', Ext w W' → (∀ b, b ∉ ds → W'.heap[b]? = W.heap[b]?) → LeavesInM F n P fn tmps R [] .returning W') → LeavesInM F n P fn tmps R (marksD ds) .returning W := by
  intro ds
  induction ds with
  | nil => intro W _ hx h; exact h W hx (fun _ _ => rfl)
  | cons D ds ih =>
    intro W ⟨hnd, hall⟩ hx h
    obtain ⟨h1, h2, h3⟩ := hall D (by simp)
    have hx2 : Ext w (W.putObj D (.deferred none)) := Below.trans hx (belowK_b (w := w) (Nat.le_refl _) W D _ _ (by omega) h3 rfl rfl)
    refine ⟨by simp, .inl ⟨_, _, rfl, run_takeDeferred h3, ih _ ⟨(List.nodup_cons.1 hnd).2, fun E hE => ?_⟩ hx2 (fun W' hx' hk => h W' hx' (fun b hbb => (hk b (fun e => hbb (by simp [e]))).trans (World.putObj_heap_other (fun e => hbb (by simp [e])))))⟩⟩
    obtain ⟨k1, k2, k3⟩ := hall E (by simp [hE])
    have hne : E ≠ D := fun e => (List.nodup_cons.1 hnd).1 (e ▸ hE)
    exact ⟨k1, by simpa [World.putObj] using k2, (World.putObj_heap_other (by omega)).trans k3⟩
theorem own_mono {b b2 : Nat} {W : World} {e : TypeId} {size n : Nat} {v : Value} {xs : List Value} (hb : b2 ≤ b) (h : W.ownsRow b e size v n xs) : W.ownsRow b2 e size v n xs := by
  refine ⟨h.1, ?_⟩
  rcases h.2 with h | ⟨g, cap, cur, hv, hB, hg, h1, h2, h3, h4⟩
  · exact Or.inl h
  · exact Or.inr ⟨g, cap, cur, hv, Nat.le_trans hb hB, hg, h1, h2, h3, h4⟩
theorem own_marks {base : Nat} {ds : List Nat} {W W' : World} (hm : Marks base ds W) (hk : ∀ b, b ∉ ds → W'.heap[b]? = W.heap[b]?) {b : Nat} {e : TypeId} {size n : Nat} {v : Value} {xs : List Value} (h : W.ownsRow b e size v n xs) : W'.ownsRow b e size v n xs := by
  refine ⟨h.1, ?_⟩
  rcases h.2 with h | ⟨g, cap, cur, hv, hB, hg, h1, h2, h3, h4⟩
  · exact Or.inl h
  · refine Or.inr ⟨g, cap, cur, hv, hB, (hk g (fun e => ?_)).trans hg, h1, h2, h3, h4⟩
    have := (hm.2 g e).2.2
    rw [hg] at this
    cases this

/-- what lies between two runs: the builder holds what has come, the rows that were made are there, the iterator's box is a box -/
def ScaleI (w : World) (k B bx : Nat) (ov : Value) (n : Nat) (xs : List Value) (base : Nat) (ds : List Nat) (pre : List (Nat × UInt8)) (W : World) : Prop :=
  Bld w.heap.size B (encW k pre) W ∧ (∃ v, Boxed W bx 9 v) ∧ W.ownsRow w.heap.size 9 1 ov n xs ∧ Marks base ds W ∧ Ext w W
theorem scaleI_own (w : World) (k B bx : Nat) (ov : Value) (n : Nat) (xs : List Value) (base : Nat) (ds : List Nat) (D : Nat) (hD : w.heap.size ≤ D) (hds : ∀ d ∈ ds, d < D) : OwnFrom D (ScaleI w k B bx ov n xs base ds) := by
  rintro s W W' row ⟨h1, ⟨v, hv⟩, h3, ⟨h4, h5⟩, h6⟩ hg hr
  refine ⟨h1.keep hg (fun r e => (hr r e).2), ⟨v, hv.kept hg ?_⟩, h3.kept hg ?_, ⟨h4, fun d hd => ?_⟩, h6.grown hg (fun k e => by have := (hr k e).1; omega)⟩
  · intro e
    obtain ⟨_, o, ho, hc⟩ := hr bx e.symm
    rw [show W.heap[bx]? = _ from hv] at ho
    cases ho
    cases hc
  · rcases h3.2 with ⟨rfl, _⟩ | ⟨g, cap, cur, rfl, _, hgb, _⟩
    · exact Or.inl rfl
    · refine Or.inr fun e => ?_
      obtain ⟨_, o, ho, hc⟩ := hr g (by simpa [Value.ownBlock] using e.symm)
      rw [hgb] at ho
      cases ho
      cases hc
  · obtain ⟨a, b, c⟩ := h5 d hd
    exact ⟨a, Nat.lt_of_lt_of_le b hg.size, (hg.block d b (fun e => by have := (hr d e.symm).1; have := hds d hd; omega)).trans c⟩
theorem scaleI_set (w : World) (k B bx : Nat) (ov : Value) (n : Nat) (xs : List Value) (base : Nat) (ds : List Nat) (hb : bx ≠ B) (hx : w.heap.size ≤ bx) (hov : ov.ownBlock ≠ some bx) (hds : ∀ d ∈ ds, d ≠ bx) (pre : List (Nat × UInt8)) (W : World) (v : Value)
    (h : ScaleI w k B bx ov n xs base ds pre W) : ScaleI w k B bx ov n xs base ds pre (W.setCell ⟨bx, 0, none⟩ v) := by
  obtain ⟨h1, ⟨u, hv⟩, h3, ⟨h4, h5⟩, h6⟩ := h
  have hg := grownBy_setCell' W bx v
  refine ⟨h1.setOther hb hv (by decide) v, ⟨v, hv.set v⟩, h3.kept hg (Or.inr hov), ⟨h4, fun d hd => ?_⟩, h6.set hx v⟩
  obtain ⟨a, b, c⟩ := h5 d hd
  exact ⟨a, Nat.lt_of_lt_of_le b hg.size, (hg.block d b (fun e => hds d hd (by injection e with e))).trans c⟩

/-- a builder, frozen or not, behind an append to a row of another type -/
theorem BldF.grown {B b : Nat} {l : List Value} {w w' : World} (h : Lib.IsBuilderF 45 5 B b l w) {base : Nat} {e : TypeId} {size n : Nat} {v : Value} {ys : List Value} (hown : w.ownsRow base e size v n ys) (h1 : e ≠ 45) (h2 : e ≠ 5) (hg : w.grownBy w' v.ownBlock) : Lib.IsBuilderF 45 5 B b l w' := by
  have other : ∀ i cs T fz, w.heap[i]? = some (.cells cs T fz) → e ≠ T → some i ≠ v.ownBlock := by
    intro i cs T fz hi hT
    rcases hown.2 with ⟨rfl, _⟩ | ⟨g, cap, cur, rfl, _, hg', _⟩
    · simp [Value.ownBlock]
    · intro e'
      simp only [Value.ownBlock, Option.some.injEq] at e'
      subst e'
      rw [hg'] at hi
      simp only [Option.some.injEq, Obj.cells.injEq] at hi
      exact hT hi.2.1
  have key : ∀ p, Lib.BuilderAtF 45 5 B b p l w → Lib.BuilderAtF 45 5 B b p l w' := by
    rintro p ⟨hB, u, hb, hown', hne⟩
    have hlt : b < w.heap.size := (Array.getElem?_eq_some_iff.1 hb).1
    refine ⟨hB, u, ?_, ?_, hne⟩
    · rw [hg.block b hlt (other b _ _ _ hb h1)]
      exact hb
    · refine hown'.kept hg ?_
      rcases hown'.2 with ⟨rfl, _⟩ | ⟨g, cap, cur, fz, rfl, _, hg', _⟩
      · exact Or.inl rfl
      · exact Or.inr (fun e' => other g _ _ _ hg' h2 (by rw [← e']; rfl))
  rcases h with h | h
  · exact Or.inl (key _ h)
  · exact Or.inr (key _ h)
theorem bldF_cells {B b : Nat} {l : List Value} {w : World} (h : Lib.IsBuilderF 45 5 B b l w) : ∃ cs T fz, w.heap[b]? = some (.cells cs T fz) := by
  rcases h with ⟨_, u, hb, _⟩ | ⟨_, u, hb, _⟩
  · exact ⟨_, _, _, hb⟩
  · exact ⟨_, _, _, hb⟩
theorem bldF_type {B b : Nat} {l : List Value} {w : World} (h : Lib.IsBuilderF 45 5 B b l w) {T : TypeId} (hT : T ≠ 45) : ∀ cs fz, w.heap[b]? ≠ some (.cells cs T fz) := by
  intro cs fz hc
  rcases h with ⟨_, u, hb, _⟩ | ⟨_, u, hb, _⟩
  · rw [hb] at hc
    injection hc with hc
    injection hc with _ h5 _
    exact hT h5.symm
  · rw [hb] at hc
    injection hc with hc
    injection hc with _ h5 _
    exact hT h5.symm
/-- what OthersKept leaves of owned rows of strings, of marks -/
theorem own_others {b : Nat} {w w' : World} (hk : Lib.OthersKept 5 (some b) w w') {base : Nat} {size n : Nat} {v : Value} {xs : List Value} (hown : w.ownsRow base 9 size v n xs) (hb : ∀ cs fz, w.heap[b]? ≠ some (.cells cs 9 fz)) : w'.ownsRow base 9 size v n xs := by
  refine ⟨hown.1, ?_⟩
  rcases hown.2 with h | ⟨g, cap, cur, hv, hB, hg, h1, h2, h3, h4⟩
  · exact Or.inl h
  · exact Or.inr ⟨g, cap, cur, hv, hB, hk g _ hg (fun e' => by injection e' with e'; subst e'; exact hb _ _ hg) (fun cs fz h => by injection h with _ h5 _; exact absurd h5 (by decide)), h1, h2, h3, h4⟩
theorem marks_others {b : Nat} {w w' : World} (hk : Lib.OthersKept 5 (some b) w w') {base : Nat} {ds : List Nat} (h : Marks base ds w) (hb : ∃ cs T fz, w.heap[b]? = some (.cells cs T fz)) (hsz : w.heap.size ≤ w'.heap.size) : Marks base ds w' := by
  refine ⟨h.1, fun D hD => ?_⟩
  obtain ⟨h1, h2, h3⟩ := h.2 D hD
  refine ⟨h1, by omega, hk D _ h3 (fun e => ?_) (fun c fz e => by cases e)⟩
  injection e with e
  subst e
  obtain ⟨cs, T, fz, hc⟩ := hb
  rw [hc] at h3
  cases h3
theorem marks_ext {w w' : World} {base : Nat} {ds : List Nat} (h : Marks base ds w) (hx : Ext w w') : Marks base ds w' :=
  ⟨h.1, fun D hD => let ⟨h1, h2, h3⟩ := h.2 D hD; ⟨h1, Nat.lt_of_lt_of_le h2 hx.size, (hx.block D h2).trans h3⟩⟩
theorem marks_grown {w w' : World} {base : Nat} {ds : List Nat} (h : Marks base ds w) {b : Nat} {e : TypeId} {size n : Nat} {v : Value} {xs : List Value} (hown : w.ownsRow b e size v n xs) (hg : w.grownBy w' v.ownBlock) : Marks base ds w' := by
  refine ⟨h.1, fun D hD => ?_⟩
  obtain ⟨h1, h2, h3⟩ := h.2 D hD
  refine ⟨h1, Nat.lt_of_lt_of_le h2 hg.size, (hg.block D h2 (fun e' => ?_)).trans h3⟩
  rcases hown.2 with ⟨rfl, _⟩ | ⟨g, cap, cur, rfl, _, hgb, _⟩
  · simp [Value.ownBlock] at e'
  · obtain rfl : D = g := by simpa [Value.ownBlock] using e'
    rw [hgb] at h3
    cases h3

theorem enc_smallS (c : UInt8) (h : c.toNat < 128) : Utf8.encode (c.toNat : Int) = BA [c] := by
  have key : ∀ m : Fin 128, Utf8.encode ((m.val : Nat) : Int) = BA [UInt8.ofNat m.val] := by decide +kernel
  have := key ⟨c.toNat, h⟩
  simp only [UInt8.ofNat_toNat] at this
  exact this
theorem px_smallS {c : UInt8} (h : isPx c = true) : c.toNat < 128 := by
  simp only [isPx, List.contains_cons, List.contains_nil, Bool.or_false, Bool.or_eq_true, beq_iff_eq] at h
  rcases h with rfl | rfl <;> decide
theorem repeatL_oneS (c : UInt8) (k : Nat) : Lib.repeatL [c] k = List.replicate k c := by
  have := Lib.repeatL_replicate c 1 k
  rwa [Nat.mul_one] at this
theorem runs_memS {l : List UInt8} {x : Nat × UInt8} {pre : List (Nat × UInt8)} (h : (pre ++ [x]) <+: runsB l) : x.1 ≤ l.length := by
  have hx : x ∈ runsB l := h.subset (by simp)
  have := (mem_cells hx).1
  rwa [cells_runsB] at this

set_option maxHeartbeats 4000000 in
set_option maxRecDepth 100000 in
theorem bscale_any (A : Option Addr) (n cap : Nat) (rows : List ByteArray) (factor : Int) (w : World) (hl : Lst w A n cap (rows.map .string)) (hz : ∀ r ∈ rows, r.size ≤ maxLen) :
    Calls Tryd.prog 18 #[.slice A n cap, .int .i64 factor] w (RowsPost w (scaleA rows factor).1 (scaleA rows factor).2) := by
  have hck := fun W (h : Lst W A n cap (rows.map .string)) => bcheck_any A n cap rows W h hz
  have HL := Lib.hid hl
  by_cases h0 : picE rows = 0
  case neg =>
    have hR : scaleA rows factor = ([], picE rows) := by unfold scaleA; rw [if_pos h0]
    rw [hR]
    have h0' : (picE rows != 0) = true := bne_iff_ne.2 h0
    generalize picE rows = z at *
    have CK := Lib.hid hck
    clear hck hR h0 hl hz
    go_enter Tryd.func18, Tryd.ntmps18
    go_wp2_with fail
    refine (CK.out _ (HL.out.ext ((Ext.refl _).alloc _))).mono ?_
    rintro e w1 ⟨rfl, hx⟩
    go_wp2_with fail
    refine bodyPost_ret (v := .tuple #[.slice none 0 0, .int .i64 z]) (by simp [results, Tryd.results18, go_sem]) rfl (rows_err _ _ _ _ rfl (((Ext.refl _).alloc _).trans hx))
  obtain ⟨hne, h200, hrow⟩ := pic_facts h0
  rw [h0] at hck
  have hlen : n = rows.length := by simpa using hl.len
  have hroom := hl.room
  have hmax := hl.max
  unfold maxLen at hmax
  have hpos : 0 < rows.length := by cases rows with | nil => exact absurd rfl hne | cons _ _ => simp
  have hw0 : widthB rows = (rows[0]'hpos).size := by
    cases rows with
    | nil => exact absurd rfl hne
    | cons r t => rfl
  obtain ⟨b, off, rfl, hc⟩ := hl.at_ (by omega)
  have CK := Lib.hid hck
  by_cases h1 : factor < 1 ∨ 8 < factor
  · have hR : scaleA rows factor = ([], 2) := by unfold scaleA; rw [if_neg (fun e => e h0), if_pos h1]
    rw [hR]
    clear hR hck hl hz hrow hlen hw0 h0 hc
    rcases h1 with h1 | h1
    · go_enter Tryd.func18, Tryd.ntmps18
      go_wp2_with fail
      refine (CK.out _ (HL.out.ext ((Ext.refl _).alloc _))).mono ?_
      rintro e w1 ⟨rfl, hx⟩
      have hf := hx.cell (a := ⟨w.heap.size, 0, none⟩) (v := .int .i64 factor) (by go_cell)
      go_wp2_with fail
      refine bodyPost_ret (v := .tuple #[.slice none 0 0, .int .i64 2]) (by simp [results, Tryd.results18, go_sem]) rfl (rows_err _ _ _ _ rfl (((Ext.refl _).alloc _).trans hx))
    · have h2 : ¬ factor < 1 := by omega
      go_enter Tryd.func18, Tryd.ntmps18
      go_wp2_with fail
      refine (CK.out _ (HL.out.ext ((Ext.refl _).alloc _))).mono ?_
      rintro e w1 ⟨rfl, hx⟩
      have hf := hx.cell (a := ⟨w.heap.size, 0, none⟩) (v := .int .i64 factor) (by go_cell)
      go_wp2_with fail
      refine bodyPost_ret (v := .tuple #[.slice none 0 0, .int .i64 2]) (by simp [results, Tryd.results18, go_sem]) rfl (rows_err _ _ _ _ rfl (((Ext.refl _).alloc _).trans hx))
  obtain ⟨k, rfl⟩ := Int.eq_ofNat_of_zero_le (show 0 ≤ factor by omega)
  have hk1 : 1 ≤ k := by omega
  have hk8 : k ≤ 8 := by omega
  have hcell0 : w.cell? ⟨b, off, none⟩ = some (.string (rows[0]'hpos)) := by
    have := hc 0 (by rw [List.length_map]; exact hpos)
    rwa [List.getElem_map] at this
  have hn0 : 0 < n := by omega
  have hn200 : n ≤ 200 := by omega
  have hr0 := (hrow (rows[0]'hpos) (List.getElem_mem hpos)).2.2.1
  by_cases h2 : 200 < rows.length * k ∨ 200 < widthB rows * k
  · have hR : scaleA rows k = ([], 6) := by unfold scaleA; rw [if_neg (fun e => e h0), if_neg h1, Int.toNat_natCast, if_pos h2]
    rw [hR]
    rw [hw0, ← hlen] at h2
    generalize (rows[0]'hpos) = r0 at *
    obtain ⟨P1, hP1⟩ : ∃ P1, P1 = n * k := ⟨_, rfl⟩
    obtain ⟨P2, hP2⟩ : ∃ P2, P2 = r0.size * k := ⟨_, rfl⟩
    rw [← hP1, ← hP2] at h2
    have hm1 : (n : Int) * (k : Int) = (P1 : Int) := by rw [hP1, Int.natCast_mul]
    have hm2 : (r0.size : Int) * (k : Int) = (P2 : Int) := by rw [hP2, Int.natCast_mul]
    have hb1 : P1 ≤ 1600 := by rw [hP1]; exact Nat.mul_le_mul hn200 hk8
    have hb2 : P2 ≤ 1600 := by rw [hP2]; exact Nat.mul_le_mul hr0 hk8
    clear hck hl hz hrow hlen hw0 h0 hc hP1 hP2 hR
    by_cases h3 : 200 < P1
    · have h3' : decide (200 < (P1 : Int)) = true := decide_eq_true (by omega)
      go_enter Tryd.func18, Tryd.ntmps18
      go_wp2_with fail
      refine (CK.out _ (HL.out.ext ((Ext.refl _).alloc _))).mono ?_
      rintro e w1 ⟨rfl, hx⟩
      have hf := hx.cell (a := ⟨w.heap.size, 0, none⟩) (v := .int .i64 k) (by go_cell)
      go_wp2_with fail
      go_quiet (fail)
      go_wp2_with fail
      refine bodyPost_ret (v := .tuple #[.slice none 0 0, .int .i64 6]) (by simp [results, Tryd.results18, go_sem]) rfl (rows_err _ _ _ _ rfl ((((Ext.refl _).alloc _).trans hx).drewN _))
    · have h4 : 200 < P2 := by omega
      have h3' : decide (200 < (P1 : Int)) = false := decide_eq_false (by omega)
      go_enter Tryd.func18, Tryd.ntmps18
      go_wp2_with fail
      refine (CK.out _ (HL.out.ext ((Ext.refl _).alloc _))).mono ?_
      rintro e w1 ⟨rfl, hx⟩
      have hf := hx.cell (a := ⟨w.heap.size, 0, none⟩) (v := .int .i64 k) (by go_cell)
      have hc1 := (((Ext.refl w).alloc (.cells #[.int .i64 k] 3)).trans hx).cell hcell0
      go_wp2_with fail
      go_quiet (fail)
      go_wp2_with fail
      refine bodyPost_ret (v := .tuple #[.slice none 0 0, .int .i64 6]) (by simp [results, Tryd.results18, go_sem]) rfl (rows_err _ _ _ _ rfl ((((Ext.refl _).alloc _).trans hx).drewN _))
  have hR : scaleA rows k = (scaledB k rows, 0) := by unfold scaleA; rw [if_neg (fun e => e h0), if_neg h1, Int.toNat_natCast, if_neg h2]
  rw [hR]
  rw [hw0, ← hlen] at h2
  have hrw : ∀ r ∈ rows, r.size = (rows[0]'hpos).size := fun r hr => by rw [← hw0]; exact (hrow r hr).1
  generalize (rows[0]'hpos) = r0 at *
  obtain ⟨P1, hP1⟩ : ∃ P1, P1 = n * k := ⟨_, rfl⟩
  obtain ⟨P2, hP2⟩ : ∃ P2, P2 = r0.size * k := ⟨_, rfl⟩
  rw [← hP1, ← hP2] at h2
  have hm1 : (n : Int) * (k : Int) = (P1 : Int) := by rw [hP1, Int.natCast_mul]
  have hm2 : (r0.size : Int) * (k : Int) = (P2 : Int) := by rw [hP2, Int.natCast_mul]
  have hb1 : P1 ≤ 200 := by omega
  have hb2 : P2 ≤ 200 := by omega
  have h3' : decide (200 < (P1 : Int)) = false := decide_eq_false (by omega)
  have h4' : decide (200 < (P2 : Int)) = false := decide_eq_false (by omega)
  have HP1 := Lib.hid hP1
  have HP2 := Lib.hid hP2
  have HRW := Lib.hid hrw
  have HPX : Hid (∀ r ∈ rows, r.data.toList.all isPx = true) := fun r hr => (hrow r hr).2.2.2
  have HN := Lib.hid hlen
  have HC := Lib.hid hc
  have hne1 : ¬ ((k : Int) < 1) := by omega
  have hne2 : ¬ ((8 : Int) < (k : Int)) := by omega
  clear hck hl hz hrow hlen hw0 h0 hc hP1 hP2 hR h2 h1 hrw
  refine (callsIn_wide (n := 3)).1 ?_
  refine callsIn_of_wp_marks Tryd.func18 rfl trivial ?_ rfl
  simp only [Tryd.ntmps18, List.size_toArray, List.length_cons, List.length_nil, Nat.reduceAdd, Nat.reduceSub, Array.replicate_succ, Array.replicate_zero, List.push_toArray, List.append_toArray, List.nil_append, List.cons_append]
  refine wpIn_wide.2 ?_
  go_wp2_with fail
  obtain ⟨W0, hW0⟩ : ∃ W0, W0 = w.alloc (.cells #[.int .i64 k] 3) := ⟨_, rfl⟩
  rw [← hW0]
  have hx0 : Ext w W0 := by rw [hW0]; exact (Ext.refl _).alloc _
  have hf0 : W0.cell? ⟨w.heap.size, 0, none⟩ = some (.int .i64 k) := by rw [hW0]; go_cell
  clear hW0
  refine (CK.out _ (HL.out.ext hx0)).mono ?_
  rintro e w1 ⟨rfl, hx1⟩
  have hf1 := hx1.cell hf0
  have hc1 := (hx0.trans hx1).cell hcell0
  go_wp2_with fail
  go_quiet (fail)
  rename_i nq
  have hxq := hx1.drewN nq
  go_wp2_with fail
  have hst : Hid (Marks W0.heap.size [] (w1.drewN nq)) := ⟨List.nodup_nil, fun D hD => by cases hD⟩
  refine wp_loop (fun a wr => ∃ (i : Nat) (ov : Value) (ds : List Nat) (u9 u10 u11 u12 u41 u42 u43 u44 u45 u46 u47 u48 u49 u50 u51 u52 u53 u54 u55 u56 u57 u58 u59 u60 u61 u62 u63 u64 : Value), i ≤ n ∧ wr.ownsRow W0.heap.size 9 1 ov (scaledB k (rows.take i)).length ((scaledB k (rows.take i)).map fun r => .string (BA r)) ∧ Marks W0.heap.size ds wr ∧ Ext W0 wr ∧
    a = { tmps := #[.slice (some ⟨b, off, none⟩) n cap, .int .i64 k, undef, .pointer (some ⟨w.heap.size, 0, none⟩), .slice none 0 0, .int .i64 0, .int .i64 0, ov, undef, u9, u10, u11, u12, .slice (some ⟨b, off, none⟩) n cap, .int .i64 0, .int .i64 0, .bool false, undef, .int .i64 k, .bool (decide ((k : Int) < 1)), .bool (decide ((k : Int) < 1)), .int .i64 k, .bool (decide ((8 : Int) < (k : Int))), .bool (decide ((k : Int) < 1) || decide ((8 : Int) < (k : Int))), .slice (some ⟨b, off, none⟩) n cap, .int .i64 n, .int .i64 k, .int .i64 P1, .bool false, .bool false, .slice (some ⟨b, off, none⟩) n cap, .pointer (some ⟨b, off, none⟩), .string r0, .int .i64 r0.size, .int .i64 k, .int .i64 P2, .bool false, .bool false, .slice (some ⟨b, off, none⟩) n cap, .int .i64 n, .int .i64 i, u41, u42, u43, u44, u45, u46, u47, u48, u49, u50, u51, u52, u53, u54, u55, u56, u57, u58, u59, u60, u61, u62, u63, u64], defers := marksD ds }) (fun a _ => n - (intOf (a.tmps.getD 40 undef)).toNat) ?start ?round
  case start => exact ⟨0, .slice none 0 0, [], undef, undef, undef, undef, undef, undef, undef, undef, undef, undef, undef, undef, undef, undef, undef, undef, undef, undef, undef, undef, undef, undef, undef, undef, undef, undef, undef, undef, Nat.zero_le _, World.ownsRow_nil _ _ _ _, hst.out, hxq, rfl⟩
  case round =>
    rintro a wr ⟨i, ov, ds, u9, u10, u11, u12, u41, u42, u43, u44, u45, u46, u47, u48, u49, u50, u51, u52, u53, u54, u55, u56, u57, u58, u59, u60, u61, u62, u63, u64, hi, hown, hmk, hx, rfl⟩
    have HO := Lib.hid hown
    have HM := Lib.hid hmk
    have hf := hx.cell hf0
    have hdl : Hid (∀ d ∈ ds, d < wr.heap.size) := fun d hd => (hmk.2 d hd).2.1
    clear hown hmk
    by_cases hlt : i < n
    · have hil : i < rows.length := by have := HN.out; omega
      have hcell := (hx0.trans hx).cell (HC.out i (by rw [List.length_map]; exact hil))
      rw [List.getElem_map] at hcell
      have hsz := HRW.out rows[i] (List.getElem_mem hil)
      have hpx := HPX.out rows[i] (List.getElem_mem hil)
      have hnx := Lib.hid (scaled_take k rows i hil)
      generalize rows[i] = r at *
      have HPXr := Lib.hid hpx
      have hrz : r.size ≤ 200 := by omega
      have hrl : Hid (r.data.toList.length = r.size) := rfl
      clear hpx hsz
      go_wp2_with fail
      refine (runsOf_any _ _).mono ?_
      rintro e w3 ⟨rfl, rfl⟩
      go_wp2_with fail
      have hbox : Boxed ((wr.alloc (.cells #[.pointer none, .slice none 0 0] 45)).alloc (.cells #[.string r] 9)) (wr.heap.size + 1) 9 (.string r) := by
        have := Boxed.new (wr.alloc (.cells #[.pointer none, .slice none 0 0] 45)) 9 (.string r)
        rwa [World.size_alloc] at this
      have hD0 : W0.heap.size ≤ wr.heap.size := hx.size
      have hxl : Ext wr ((wr.alloc (.cells #[.pointer none, .slice none 0 0] 45)).alloc (.cells #[.string r] 9)) := ((Ext.refl wr).alloc _).alloc _
      have hszl : ((wr.alloc (.cells #[.pointer none, .slice none 0 0] 45)).alloc (.cells #[.string r] 9)).heap.size = wr.heap.size + 2 := by simp
      have hfresh : Bld W0.heap.size wr.heap.size [] ((wr.alloc (.cells #[.pointer none, .slice none 0 0] 45)).alloc (.cells #[.string r] 9)) := (Bld.fresh W0 _ _ _ hD0 (World.alloc_heap_new wr _)).ext ((Ext.refl _).alloc _)
      have hovb : ov.ownBlock ≠ some (wr.heap.size + 1) := fun e => by have := (HO.out.lt _ e).2; omega
      generalize hWl : (wr.alloc (.cells #[.pointer none, .slice none 0 0] 45)).alloc (.cells #[.string r] 9) = Wl at *
      clear hWl
      refine wpIn_wide.1 (wpIn_rangeFunc_box (F := Fence.wide) (n := 3) rfl (by omega) (gf := 38) (lb := #[.pointer (some ⟨wr.heap.size + 1, 0, none⟩)]) (by first | rfl | (simp; rfl)) trivial (enters_of Tryd.func38 (by kernel_rfl) rfl)
        (encs := encR) (bx := wr.heap.size + 1) (xs := runsB r.data.toList) (runs_seq r (wr.heap.size + 1) _ (by omega) hbox 2) (by rw [hszl]; omega) (Below.refl _ _) (fun _ => rfl)
        (ScaleI W0 k wr.heap.size (wr.heap.size + 1) ov _ _ W0.heap.size ds) (scaleI_own W0 k _ _ ov _ _ _ ds _ (by rw [hszl]; omega) (fun d hd => by have := hdl.out d hd; rw [hszl]; omega))
        (fun pre W v h => scaleI_set W0 k _ _ ov _ _ _ ds (by omega) (by omega) hovb (fun d hd e => by have := hdl.out d hd; omega) pre W v h) ⟨hfresh, ⟨_, hbox⟩, own_ext HO.out hxl, marks_ext HM.out hxl, hx.trans hxl⟩ ?a1 ?assign ?body ?done)
      case assign =>
        intro l x W K hK
        unfold encR
        gi_wp2
        exact hK
      case body =>
        rintro l pre x W hpx ⟨hb, ⟨bv, hv⟩, ho, hm, hx'⟩
        have hxm : x ∈ runsB r.data.toList := hpx.subset (by simp)
        have hxb := runs_memS hpx
        rw [hrl.out] at hxb
        have hxc : isPx x.2 = true := by
          have h1 := (mem_cells hxm).2 ((runsB_alt _).mem x hxm)
          rw [cells_runsB] at h1
          exact List.all_eq_true.1 HPXr.out _ h1
        obtain ⟨m, hm0⟩ : ∃ m, m = x.1 * k := ⟨_, rfl⟩
        have hmi : (x.1 : Int) * (k : Int) = (m : Int) := by rw [hm0, Int.natCast_mul]
        have hmb : m ≤ 1600 := by rw [hm0]; exact Nat.mul_le_mul (show x.1 ≤ 200 by omega) hk8
        have hcv : ∀ W, (convert 5 9 (.int .u8 (x.2.toNat : Int))).run Tryd.prog W = .ok (.string (BA [x.2])) W := fun W => by
          rw [run_convert_int_string W _ _ _ _ (by kernel_rfl) (by kernel_rfl), enc_smallS x.2 (px_smallS hxc)]
        have hrp := fun W => Tryd.strings_Repeat (BA [x.2]) m W (by omega) (by rw [BA_size]; simp; omega)
        obtain ⟨RP, hRP⟩ : ∃ RP, RP = BA (List.replicate m x.2) := ⟨_, rfl⟩
        have HRP : Hid (∀ W, Calls Tryd.prog 31 #[.string (BA [x.2]), .int .i64 (m : Int)] W fun e w' => e = .returned (.string RP) ∧ Ext W w') := by
          intro W
          refine (hrp W).mono ?_
          rintro e w' ⟨rfl, hx⟩
          refine ⟨?_, hx⟩
          rw [hRP, ← repeatL_oneS]; rfl
        have hrpz : RP.size ≤ 1600 := by rw [hRP, BA_size, List.length_replicate]; exact hmb
        have hcat : Hid (encW k (pre ++ [x]) = encW k pre ++ RP.data.toList) := by
          show _ = _
          rw [encW_snoc, hRP, BA_data, hm0]
        have hpl : (encW k pre).length ≤ 1600 := by
          have h1 := encW_pre k (List.IsPrefix.trans (List.prefix_append pre [x]) hpx)
          rw [encW_runs, wide_len, hrl.out] at h1
          have h2 : r.size * k ≤ 200 * 8 := Nat.mul_le_mul hrz hk8
          omega
        have hf2 := hx'.cell hf0
        have HB := Lib.hid hb
        have HV := Lib.hid hv
        have HO3 := Lib.hid ho
        have HM3 := Lib.hid hm
        generalize BA [x.2] = C1 at *
        clear hb hv ho hm hxm hxc hm0 hrp hRP hpx hxb
        gi_wp2_with fail
        refine ⟨trivial, (CallsIn.inRound l (callsIn_wide.2 (HRP.out _))).mono ?_⟩
        rintro e W1 ⟨rfl, hx1'⟩
        have hs1 : W0.heap.size ≤ W1.heap.size := (hx'.trans hx1').size
        gi_wp2_with fail
        refine ⟨trivial, (CallsIn.inRound l (callsIn_wide.2 (bld_str W0.heap.size wr.heap.size (encW k pre) RP _ (HB.out.ext hx1') (by omega) hs1))).mono ?_⟩
        rintro e W2 ⟨rfl, hb2, hbe2, hk2⟩
        have HB2 := Lib.hid hb2
        have HK2 := Lib.hid hk2
        clear hb2 hk2
        gi_wp2_with fail
        have hvv := HV.out
        have v1 : Boxed W1 (wr.heap.size + 1) 9 bv := (boxed_ext hx1' hvv).trans hvv
        have e2 := HK2.out.boxed (by omega) v1 (by decide)
        have v2 : Boxed W2 (wr.heap.size + 1) 9 bv := e2.trans v1
        have hB1 := HB.out.ext hx1'
        refine ⟨(keeps_ext hx1' _).trans (HK2.out.keeps _ hB1.cells), e2.trans (boxed_ext hx1' hvv), ?_, ⟨bv, v2⟩, own_bkeep HK2.out (own_ext HO3.out hx1') (by decide) (hB1.type (by decide)), ?_, Below.trans (hx'.trans hx1') hbe2⟩
        · rw [hcat.out]
          exact HB2.out
        · have hm1 := marks_ext HM3.out hx1'
          refine ⟨hm1.1, fun d hd => ?_⟩
          obtain ⟨a1, a2, a3⟩ := hm1.2 d hd
          have hne : d ≠ wr.heap.size := fun e => by have := hdl.out d hd; omega
          exact ⟨a1, Nat.lt_of_lt_of_le a2 HK2.out.size, HK2.out.block d _ hne a3 (fun cs fz e => by cases e)⟩
      case done =>
        rintro D W hD ⟨hb, _, ho, hm, hx'⟩ hK
        have hf2 := hx'.cell hf0
        rw [encW_runs] at hb
        have hm2 : Marks W0.heap.size (D :: ds) W := ⟨List.nodup_cons.2 ⟨fun hd => by have := hdl.out D hd; rw [hszl] at hD; omega, hm.1⟩, fun d hd => by
          rcases List.mem_cons.1 hd with rfl | hd
          · exact ⟨by rw [hszl] at hD; omega, (Array.getElem?_eq_some_iff.1 hK).1, hK⟩
          · exact hm.2 d hd⟩
        have HB := Lib.hid (Lib.IsBuilderF.of hb)
        have HO2 := Lib.hid ho
        have HM2 := Lib.hid hm2
        clear hb ho hm hm2 hK
        obtain ⟨BB, hBB⟩ : ∃ BB, BB = wr.heap.size := ⟨_, rfl⟩
        rw [← hBB] at HB ⊢
        clear hBB
        go_wp2_with fail
        have hd0 : marksD (D :: ds) = { target := Target.collected D, args := #[] } :: marksD ds := rfl
        rw [← hd0]
        generalize hDS : D :: ds = DS at *
        clear hd0 hDS hD hf2 hovb hszl hfresh hbox hxl
        obtain ⟨L0, hL0⟩ : ∃ L0, L0 = (scaledB k (rows.take i)).map fun r => Value.string (BA r) := ⟨_, rfl⟩
        obtain ⟨n0, hn0'⟩ : ∃ n0, n0 = (scaledB k (rows.take i)).length := ⟨_, rfl⟩
        rw [← hL0, ← hn0'] at HO2
        obtain ⟨WB, hWB⟩ : ∃ WB, WB = wideB k r.data.toList := ⟨_, rfl⟩
        rw [← hWB] at HB hnx
        have hn0b : n0 ≤ 200 := by
          rw [hn0', scaled_len, List.length_take]
          have h1 : min i rows.length * k ≤ n * k := Nat.mul_le_mul_right _ (by have := HN.out; omega)
          rw [← HP1.out] at h1
          omega
        have HL0 := Lib.hid hL0
        have HN0 := Lib.hid hn0'
        clear hL0 hn0' hWB HO
        have hst3 : Hid (L0 ++ List.replicate 0 (Value.string (BA WB)) = L0) := by show _ = _; simp
        go_loopw [7, 56] (fun ov jv wr => ∃ j : Nat, jv = .int .i64 j ∧ j ≤ k ∧ Lib.IsBuilderF 45 5 W0.heap.size BB (Lib.byteCells WB) wr ∧ wr.ownsRow W0.heap.size 9 1 ov (n0 + j) (L0 ++ List.replicate j (.string (BA WB))) ∧ Marks W0.heap.size DS wr ∧ Ext W0 wr) (fun _ jv _ => k - (intOf jv).toNat)
        case atStart => exact ⟨0, rfl, Nat.zero_le _, HB.out, by rw [hst3.out]; exact HO2.out, HM2.out, hx'⟩
        case round =>
          obtain ⟨j, rfl, hj, hbF, hownJ, hmkJ, hxJ⟩ := hrel
          have HBF := Lib.hid hbF
          have HOJ := Lib.hid hownJ
          have HMJ := Lib.hid hmkJ
          clear hbF hownJ hmkJ
          have hnb := Lib.hid (bldF_type HBF.out (T := 9) (by decide))
          have hcb := Lib.hid (bldF_cells HBF.out)
          have hS : Hid (∀ W, Lib.IsBuilderF 45 5 W0.heap.size BB (Lib.byteCells WB) W → W0.heap.size ≤ W.heap.size → Calls Tryd.prog 28 #[.pointer (some ⟨BB, 0, none⟩)] W fun e w' => e = .returned (.string (BA WB)) ∧ (Lib.IsBuilderF 45 5 W0.heap.size BB (Lib.byteCells WB) w' ∧ Below W0.heap.size W w' ∧ Lib.OthersKept 5 (some BB) W w')) :=
            fun W h1 h2 => Tryd.Builder_String_any_k W0.heap.size BB WB W h1 h2
          have hrep : Hid (∀ j, L0 ++ List.replicate (j + 1) (Value.string (BA WB)) = L0 ++ (List.replicate j (Value.string (BA WB)) ++ [.string (BA WB)])) := by
            intro j
            rw [List.replicate_succ']
          have hend : Hid ((scaledB k (rows.take (i + 1))).length = n0 + k ∧ ((scaledB k (rows.take (i + 1))).map fun r => Value.string (BA r)) = L0 ++ List.replicate k (Value.string (BA WB))) := by
            show _ ∧ _
            rw [hnx.out, List.length_append, List.map_append, ← HL0.out, ← HN0.out, List.length_replicate, List.map_replicate]
            exact ⟨rfl, rfl⟩
          generalize BA WB = X at *
          by_cases hjk : j < k
          · go_wp2_with fail
            with_reducible refine (hS.out _ HBF.out hxJ.size).mono ?_
            rintro e w4 ⟨rfl, hbF4, hbe4, hok4⟩
            have hx4 : Ext W0 w4 := Below.trans hxJ hbe4
            have hs4 := hbe4.size
            have HO4 := Lib.hid (own_others hok4 HOJ.out hnb.out)
            have HM4 := Lib.hid (marks_others hok4 HMJ.out hcb.out hs4)
            have HB4 := Lib.hid hbF4
            clear hbF4 hbe4 hok4
            obtain ⟨i0, hi, hz0, hz1, hz2⟩ := info_parts Tryd.infoStr
            go_wp2_with (at_builtin; refine wpList_append_own _ rfl (.tmp 58) (.tmp 60) _ rfl W0.heap.size 9 i0 _ 1 16 Tryd.underlying23 hi hz0 hz1 hz2 rfl (by omega) _ _ _ rfl (HO4.out.alloc _) ⟨w4.heap.size, 0, none⟩ 1 1 [.string X] rfl rfl ?c1 ?c2 ?c3 ?c4 ?c5 ?_)
            case c1 =>
              intro j u hu
              match j, hu with
              | 0, hu => simp at hu; subst hu; go_cell
            case c2 =>
              intro u hu
              simp at hu
              subst hu; rfl
            case c3 => unfold maxLen; omega
            case c4 => omega
            case c5 => (have hc5 := hx4.size; try simp at hc5); simp; omega
            intro v' w2 hown2 hgr _
            have hx3 := (hx4.alloc (.cells #[.string X] 9)).grown hgr (fun k hk => (HO4.out.lt k hk).1)
            have HO2 := Lib.hid hown2
            have HG := Lib.hid hgr
            clear hown2 hgr
            have HB5 := Lib.hid (BldF.grown (HB4.out.alloc (.cells #[.string X] 9)) (HO4.out.alloc _) (by decide) (by decide) HG.out)
            have HM5 := Lib.hid (marks_grown (marks_ext HM4.out ((Ext.refl w4).alloc (.cells #[.string X] 9))) (HO4.out.alloc _) HG.out)
            go_wp2_with fail
            go_roundw
            case rel =>
              refine ⟨j + 1, by go_num, by omega, HB5.out, ?_, HM5.out, hx3⟩
              rw [hrep.out, ← Nat.add_assoc]
              exact HO2.out
            case measure => simp [intOf]; omega
          · obtain rfl : j = k := by omega
            go_wp2_with fail
            refine ⟨⟨i + 1, u7, DS, _, _, _, _, _, _, _, _, _, _, _, _, _, _, _, _, _, _, _, _, _, _, _, _, _, _, _, _, by omega, ?_, HMJ.out, hxJ, rfl⟩, ?_⟩
            · rw [hend.out.1, hend.out.2]
              exact HOJ.out
            · simp [intOf]; omega
    · obtain rfl : i = n := by omega
      rw [List.take_of_length_le (by have := HN.out; omega)] at HO
      go_wp2_with fail
      refine leaves_marks (base := W0.heap.size) hx0.size ds _ HM.out (hx0.trans hx) ?_
      intro W' hx' hkk
      refine ⟨.tuple #[ov, .int .i64 0], by simp [results, Tryd.results18, go_sem], ?_⟩
      exact ⟨_, rfl, own_mono hx0.size (own_marks HM.out hkk HO.out), hx'⟩
end Go.Proofs.YthanegmaipckdaaDoor
