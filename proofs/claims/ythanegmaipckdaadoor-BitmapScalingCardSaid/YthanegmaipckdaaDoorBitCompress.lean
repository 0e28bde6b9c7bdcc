/- The contract of bitmap.Compress (layer 52). -/
import Derived.Test.YthanegmaipckdaaDoorBitOwn
import Derived.Test.YthanegmaipckdaaDoorBitParse
import Derived.Test.YthanegmaipckdaaDoorGrow
import Derived.IntWalk
import Derived.Deep.RegionHeld3
import Derived.StillTactics
import Derived.Lib.ItoaMem
namespace Go.Proofs.YthanegmaipckdaaDoor
open Go.RowKit Go.Shelf
open Go.Lib hiding intOf
set_option linter.unusedVariables false
attribute [local go_sem] Oper.semAt_some

theorem inter_nil : ∀ l : List Bytes, List.intercalate [] l = l.flatten := by
  intro l
  induction l with
  | nil => rfl
  | cons r t ih =>
    cases t with
    | nil => simp [List.intercalate]
    | cons a t =>
      simp only [List.intercalate, List.intersperse, List.flatten_cons, List.nil_append] at ih ⊢
      rw [ih]
theorem join_cat (rows : List ByteArray) : Lib.join (rows.map (·.data.toList)) [] = catB rows := by
  show List.intercalate [] _ = _
  rw [inter_nil]
  unfold catB
  rw [List.flatMap_def]
theorem decD_le2 : ∀ u : Nat, (Lib.decDigits u).length ≤ u + 1 := by
  intro u
  induction u using Nat.strongRecOn with
  | _ u ih =>
    rw [Lib.decDigits]
    split
    · simp
    · have := ih (u / 10) (by omega)
      simp
      omega
theorem encB_len_le (rs : List (Nat × UInt8)) : (encB rs).length ≤ (rs.map (·.1)).sum + 2 * rs.length := by
  induction rs with
  | nil => exact Nat.le_refl _
  | cons x r ih =>
    have := decD_le2 x.1
    rw [encB_cons, List.length_append, List.length_append, List.map_cons, List.sum_cons, List.length_cons]
    simp only [List.length_cons, List.length_nil]
    omega

theorem runs_sum : ∀ rs : List (Nat × UInt8), (rs.map (·.1)).sum = (cellsR rs).length := by
  intro rs
  induction rs with
  | nil => rfl
  | cons x r ih => rw [List.map_cons, List.sum_cons, ih, cellsR_cons, List.length_append, List.length_replicate]
theorem runs_count : ∀ rs : List (Nat × UInt8), AltR rs → rs.length ≤ (cellsR rs).length := by
  intro rs
  induction rs with
  | nil => intro _; exact Nat.le_refl _
  | cons x r ih =>
    intro ⟨h1, _, h3⟩
    have := ih h3
    rw [cellsR_cons, List.length_append, List.length_replicate, List.length_cons]
    omega
theorem encB_runs_len (l : Bytes) : (encB (runsB l)).length ≤ 3 * l.length := by
  have h1 := encB_len_le (runsB l)
  have h2 := runs_sum (runsB l)
  have h3 := runs_count _ (runsB_alt l)
  rw [cells_runsB] at h2 h3
  omega
theorem encB_append (a b : List (Nat × UInt8)) : encB (a ++ b) = encB a ++ encB b := by simp [encB]
theorem encB_pre {a b : List (Nat × UInt8)} (h : a <+: b) : (encB a).length ≤ (encB b).length := by
  obtain ⟨t, rfl⟩ := h
  rw [encB_append, List.length_append]; omega
theorem runs_mem_le {l : Bytes} {x : Nat × UInt8} {pre : List (Nat × UInt8)} (h : (pre ++ [x]) <+: runsB l) : x.1 ≤ l.length := by
  have hx : x ∈ runsB l := h.subset (by simp)
  have := (mem_cells hx).1
  rwa [cells_runsB] at this
theorem keeps_ext {W W' : World} (h : Ext W W') (B : Nat) : KeepsFrom B W W' :=
  ⟨h.size, fun k o _ hk ho => (h.block k (Array.getElem?_eq_some_iff.1 hk).1).trans hk⟩
theorem boxed_ext {W W' : World} (h : Ext W W') {b : Nat} {T : TypeId} {v : Value} (hv : Boxed W b T v) : W'.heap[b]? = W.heap[b]? := h.block b hv.lt
theorem catB_len (rows : List ByteArray) (hr : ∀ r ∈ rows, r.size ≤ 200) : (catB rows).length ≤ rows.length * 200 := by
  unfold catB
  induction rows with
  | nil => exact Nat.le_refl _
  | cons r t ih =>
    have h1 := ih (fun x hx => hr x (by simp [hx]))
    have h2 := hr r (by simp)
    have h3 : r.data.toList.length = r.size := rfl
    rw [List.flatMap_cons, List.length_append, List.length_cons]
    omega

/-- what lies between two runs: the builder holds what has come, the iterator's box is a box, what was there is there -/
def CompI (w : World) (B bx : Nat) (pre : List (Nat × UInt8)) (W : World) : Prop :=
  Bld w.heap.size B (encB pre) W ∧ (∃ v, Boxed W bx 9 v) ∧ Ext w W
theorem compI_own (w : World) (B bx D : Nat) (hD : w.heap.size ≤ D) : OwnFrom D (CompI w B bx) := by
  rintro s W W' row ⟨h1, ⟨v, hv⟩, h3⟩ hg hr
  refine ⟨h1.keep hg (fun r e => (hr r e).2), ⟨v, hv.kept hg ?_⟩, h3.grown hg (fun k e => by have := (hr k e).1; omega)⟩
  intro e
  obtain ⟨_, o, ho, hc⟩ := hr bx e.symm
  rw [show W.heap[bx]? = _ from hv] at ho
  cases ho
  cases hc
theorem compI_set (w : World) (B bx : Nat) (hb : bx ≠ B) (hx : w.heap.size ≤ bx) (pre : List (Nat × UInt8)) (W : World) (v : Value) (h : CompI w B bx pre W) : CompI w B bx pre (W.setCell ⟨bx, 0, none⟩ v) := by
  obtain ⟨h1, ⟨u, hv⟩, h3⟩ := h
  exact ⟨h1.setOther hb hv (by decide) v, ⟨v, hv.set v⟩, h3.set hx v⟩

set_option maxHeartbeats 4000000 in
set_option maxRecDepth 100000 in
theorem bcompress_any (A : Option Addr) (n cap : Nat) (rows : List ByteArray) (w : World) (hl : Lst w A n cap (rows.map .string)) (hz : ∀ r ∈ rows, r.size ≤ maxLen) (hE : Env w) :
    Calls Tryd.prog 15 #[.slice A n cap] w fun e w' => e = .returned (.tuple #[.string (BA (compZ rows).1), .int .i64 ((compZ rows).2.1 : Int), .int .i64 (compZ rows).2.2]) ∧ Ext w w' := by
  have hck := fun W (h : Lst W A n cap (rows.map .string)) => bcheck_any A n cap rows W h hz
  by_cases h0 : picE rows = 0
  · have hR : compZ rows = (encB (runsB (catB rows)), widthB rows, 0) := by unfold compZ; rw [if_pos h0]
    rw [hR]
    obtain ⟨hne, h200, hrow⟩ := pic_facts h0
    rw [h0] at hck
    have hlen : n = rows.length := by simpa using hl.len
    have hroom := hl.room
    have hmax := hl.max
    unfold maxLen at hmax
    have hpos : 0 < rows.length := by cases rows with | nil => exact absurd rfl hne | cons _ _ => simp
    have hcl := catB_len rows (fun r hr => (hrow r hr).2.2.1)
    have hw0 : widthB rows = (rows[0]'hpos).size := by
      cases rows with
      | nil => exact absurd rfl hne
      | cons r t => rfl
    obtain ⟨b, off, rfl, hc⟩ := hl.at_ (by omega)
    have hc0 : w.cell? ⟨b, off, none⟩ = some (.string (rows[0]'hpos)) := by
      have := hc 0 (by rw [List.length_map]; exact hpos)
      rwa [List.getElem_map] at this
    have hbw := cell_lt hc0
    have hjn := fun W (hx : Ext w W) => Tryd.strings_Join b off cap rows ⟨#[]⟩ W (fun j x hj => by
      obtain ⟨h1, h2⟩ := List.getElem?_eq_some_iff.1 hj
      have := hx.cell (hc j (by rw [List.length_map]; exact h1))
      rw [List.getElem_map, h2] at this
      exact this) (by have := hx.size; simp at hbw; omega) (by omega) (by omega) (by
      show (Lib.join (rows.map (·.data.toList)) []).length ≤ _
      rw [join_cat]; omega)
    have hjn' : ∀ W, Ext w W → Calls Tryd.prog 24 #[.slice (some ⟨b, off, none⟩) n cap, .string ⟨#[]⟩] W fun e W' => e = .returned (.string (BA (catB rows))) ∧ Ext W W' := by
      intro W hx
      have := hjn W hx
      rw [← hlen] at this
      refine this.mono ?_
      rintro e W' ⟨rfl, h2⟩
      refine ⟨?_, h2⟩
      show _ = Ending.returned (.string ⟨(catB rows).toArray⟩)
      rw [← join_cat]
    have hrz := (hrow (rows[0]'hpos) (List.getElem_mem hpos)).2.2.1
    generalize (rows[0]'hpos) = r0 at *
    have HW0 := Lib.hid hw0
    have CK := Lib.hid hck
    have HL := Lib.hid hl
    have HN := Lib.hid hlen
    have HJ := Lib.hid hjn'
    have hn0 : 0 < n := by omega
    have hcl2 : (catB rows).length ≤ 40000 := by omega
    have hRl := Lib.hid (encB_runs_len (catB rows))
    generalize hall : catB rows = all at *
    clear hck hR h0 hl hz hrow hlen hjn hjn' hc hw0 hall
    refine (callsIn_wide (n := 3)).1 ?_
    refine callsIn_of_wp_marks Tryd.func15 rfl trivial ?_ rfl
    simp only [Tryd.ntmps15, List.size_toArray, List.length_cons, List.length_nil, Nat.reduceAdd, Nat.reduceSub, Array.replicate_succ, Array.replicate_zero, List.push_toArray, List.append_toArray, List.nil_append, List.cons_append]
    refine wpIn_wide.2 ?_
    go_wp2_with fail
    refine (CK.out _ HL.out).mono ?_
    rintro e w1 ⟨rfl, hx1⟩
    go_wp2_with fail
    refine (HJ.out _ (hx1.alloc _)).mono ?_
    rintro e w2 ⟨rfl, hx2⟩
    go_wp2_with fail
    refine (runsOf_any _ _).mono ?_
    rintro e w3 ⟨rfl, rfl⟩
    have hx02 := (hx1.alloc (.cells #[.pointer none, .slice none 0 0] 45)).trans hx2
    have hBw : w1.heap.size < w2.heap.size := by have := hx2.size; simp at this; omega
    have hfresh : Bld w.heap.size w1.heap.size [] w2 := Bld.ext (Bld.fresh w _ _ _ hx1.size (World.alloc_heap_new w1 _)) hx2
    go_wp2_with fail
    have hbox : Boxed (w2.alloc (.cells #[.string (BA all)] 9)) w2.heap.size 9 (.string (BA all)) := Boxed.new w2 _ _
    have hD0 : w.heap.size ≤ w2.heap.size := hx02.size
    refine wpIn_wide.1 (wpIn_rangeFunc_box (F := Fence.wide) (n := 3) rfl (by omega) (gf := 38) (lb := #[.pointer (some ⟨w2.heap.size, 0, none⟩)]) rfl trivial (enters_of Tryd.func38 (by kernel_rfl) rfl)
      (encs := encR) (bx := w2.heap.size) (xs := runsB all) (runs_seq (BA all) w2.heap.size _ (by rw [BA_size]; omega) hbox 2) (by simp) (Below.refl _ _) (fun _ => rfl)
      (CompI w w1.heap.size w2.heap.size) (compI_own w _ _ _ (by simp; omega)) (fun pre W v h => compI_set w _ _ (by omega) (by omega) pre W v h) ⟨hfresh.ext ((Ext.refl _).alloc _), ⟨_, hbox⟩, hx02.alloc _⟩ ?a1 ?assign ?body ?done)
    case assign =>
      intro l x W K hK
      unfold encR
      gi_wp2
      exact hK
    case body =>
      rintro l pre x W hpx ⟨hb, ⟨bv, hv⟩, hx⟩
      have hxb := runs_mem_le hpx
      have hcat : Hid (encB (pre ++ [x]) = encB pre ++ (Lib.itoa (x.1 : Int)) ++ [x.2]) := by
        show _ = _
        rw [encB_append, Lib.itoa_nonneg]; simp [encB]
      have hpl : (encB pre).length + (Lib.itoa (x.1 : Int)).length + 1 ≤ 120000 := by
        have h1 := encB_pre hpx
        have h2 := hRl.out
        have h3 := congrArg List.length hcat.out
        simp only [List.length_append, List.length_cons, List.length_nil] at h3
        omega
      have hit := fun W' (h : Env W') => itoa_any (x.1 : Int) (by omega) (by omega) W' h
      have hiz : (BA (Lib.itoa (x.1 : Int))).size = (Lib.itoa (x.1 : Int)).length := BA_size _
      have hid : Hid ((BA (Lib.itoa (x.1 : Int))).data.toList = Lib.itoa (x.1 : Int)) := BA_data _
      have HIT := Lib.hid hit
      have HB := Lib.hid hb
      have HV := Lib.hid hv
      generalize hq : BA (Lib.itoa (x.1 : Int)) = q at *
      have hqs : q.size ≤ 120000 := by omega
      clear hit hb hv hpx hq hiz
      gi_wp2_with fail
      refine ⟨trivial, (CallsIn.inRound l (callsIn_wide.2 (HIT.out _ (hE.ext hx)))).mono ?_⟩
      rintro e W1 ⟨rfl, hx1'⟩
      gi_wp2_with fail
      have hs1 : w.heap.size ≤ W1.heap.size := (hx.trans hx1').size
      refine ⟨trivial, (CallsIn.inRound l (callsIn_wide.2 (bld_str w.heap.size w1.heap.size (encB pre) q _ (HB.out.ext hx1') (by omega) hs1))).mono ?_⟩
      rintro e W2 ⟨rfl, hb2, hbe2, hk2⟩
      have hs2 : w.heap.size ≤ W2.heap.size := by have := hbe2.size; omega
      have hl2 : (encB pre ++ q.data.toList).length + 1 ≤ 140737488355328 := by
        rw [List.length_append]
        have : q.data.toList.length = q.size := rfl
        omega
      have HB2 := Lib.hid hb2
      have HK2 := Lib.hid hk2
      clear hb2 hk2
      gi_wp2_with fail
      refine ⟨trivial, (CallsIn.inRound l (callsIn_wide.2 (bld_byte w.heap.size w1.heap.size _ x.2 _ HB2.out hl2 hs2))).mono ?_⟩
      rintro e W3 ⟨rfl, hb3, hbe3, hk3⟩
      have HB3 := Lib.hid hb3
      have HK3 := Lib.hid hk3
      clear hb3 hk3
      gi_wp2_with fail
      have hvv := HV.out
      have v1 : Boxed W1 w2.heap.size 9 bv := (boxed_ext hx1' hvv).trans hvv
      have e2 := HK2.out.boxed (by omega) v1 (by decide)
      have v2 : Boxed W2 w2.heap.size 9 bv := e2.trans v1
      have e3 := HK3.out.boxed (by omega) v2 (by decide)
      have v3 : Boxed W3 w2.heap.size 9 bv := e3.trans v2
      refine ⟨((keeps_ext hx1' _).trans (HK2.out.keeps _ (HB.out.ext hx1').cells)).trans (HK3.out.keeps _ HB2.out.cells), (e3.trans e2).trans (boxed_ext hx1' hvv), ?_, ⟨bv, v3⟩, Below.trans (Below.trans (hx.trans hx1') hbe2) hbe3⟩
      rw [hcat.out, ← hid.out]
      exact HB3.out
    case done =>
      rintro D W hD ⟨hb, _, hx⟩ hK
      have hc0' := hx.cell hc0
      have hn1 : (0 : Int) < (n : Int) := by omega
      have hs0 := hx.size
      have HB := Lib.hid hb
      have HK := Lib.hid hK
      have hDB : D ≠ w1.heap.size := by simp at hD; omega
      have hDw : w.heap.size ≤ D := by simp at hD; omega
      clear hb hK hD
      go_wp2_with fail
      go_region_held3 (fun w' => w'.cell? ⟨b, off, none⟩ = some (.string r0))
        (first | go_keep | ((exact (hb5.cell hbw).trans (by assumption))))
        ((go_at_call 28; refine (bld_string w.heap.size w1.heap.size (encB (runsB all)) _ (HB.out.ext ((Ext.refl _).drew)) hs0).mono ?_; rintro e W5 ⟨rfl, hb5, hk5⟩))
      have hKK := hk5.block D _ hDB HK.out (by intro cs fz e; cases e)
      have HKK := Lib.hid hKK
      clear hKK
      go_wp2_with fail
      refine ⟨by simp, .inl ⟨_, _, rfl, run_takeDeferred HKK.out, ?_⟩⟩
      refine ⟨.tuple #[.string (BA (encB (runsB all))), .int .i64 (r0.size : Int), .int .i64 0], by simp [results, Tryd.results15, go_sem]; rfl, by rw [HW0.out], ?_⟩
      exact Below.trans (Below.trans hx.drew hb5) (belowK_b (w := w) (Nat.le_refl _) W5 D _ _ hDw HKK.out rfl rfl)
  · have hR : compZ rows = ([], 0, picE rows) := by unfold compZ; rw [if_neg h0]
    rw [hR]
    have h0' : (picE rows != 0) = true := bne_iff_ne.2 h0
    generalize picE rows = z at *
    have CK := Lib.hid hck
    have HL := Lib.hid hl
    clear hck hR h0 hl hz
    go_enter Tryd.func15, Tryd.ntmps15
    go_wp2_with fail
    refine (CK.out _ HL.out).mono ?_
    rintro e w1 ⟨rfl, hx⟩
    go_wp2_with fail
    refine bodyPost_ret (v := .tuple #[.string (BA []), .int .i64 0, .int .i64 z]) (by simp [results, Tryd.results15, go_sem]; rfl) rfl ⟨rfl, hx⟩
end Go.Proofs.YthanegmaipckdaaDoor
