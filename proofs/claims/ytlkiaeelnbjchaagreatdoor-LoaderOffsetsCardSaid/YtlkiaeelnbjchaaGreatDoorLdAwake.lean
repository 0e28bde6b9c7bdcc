/- loader.Load of no pieces; awake() of layer 27 returns true. -/
import Derived.Test.YtlkiaeelnbjchaaGreatDoorLdRef3
import Derived.Test.YtlkiaeelnbjchaaGreatDoorLdRange0
namespace Go.Proofs.YtlkiaeelnbjchaaGreatDoor
open Go.RowKit Go.Shelf
open Go.Lib hiding intOf
set_option linter.unusedVariables false
attribute [local go_sem] Oper.semAt_some

set_option maxHeartbeats 4000000 in
set_option maxRecDepth 100000 in
theorem load_nil (arch : Nat) (w : World) (hE : Env w) (ha : arch < 4294967296) :
    Calls Tryz.prog 12 #[.slice none 0 0, .int .u32 arch] w fun e w' => e = .returned (.tuple #[.string ⟨#[]⟩, .slice none 0 0, .int .i64 9]) ∧ Ext w w' := by
  have hmm := @run_makeMap Tryz.prog
  refine (callsIn_wide (n := 3)).1 ?_
  refine callsIn_of_wp_marks Tryz.func12 rfl trivial ?_ rfl
  simp only [Tryz.ntmps12, List.size_toArray, List.length_cons, List.length_nil, Nat.reduceAdd, Nat.reduceSub, Array.replicate_succ, Array.replicate_zero, List.push_toArray, List.append_toArray, List.nil_append, List.cons_append]
  refine wpIn_wide.2 ?_
  go_wp2_with fail
  refine (frames_any _ _ _ _ _).mono ?_
  rintro e w1 ⟨rfl, rfl⟩
  go_wp2_with fail
  obtain ⟨W1, hW1⟩ : ∃ W1, ((((((((w.alloc (.cells #[.string ⟨#[]⟩] 9)).alloc (.cells #[.slice none 0 0] 26)).alloc (.cells #[.int .i64 0] 27)).alloc (.map #[] 0)).alloc (.cells #[.int .i64 0] 3)).alloc (.cells #[.map (some (w.heap.size + 1 + 1 + 1))] 51)).alloc (.cells #[.slice none 0 0] 22)).alloc (.cells #[.int .u32 arch] 23)) = W1 := ⟨_, rfl⟩
  have hx1 : Ext w W1 := by rw [← hW1]; exact ((((((((Ext.refl w).alloc _).alloc _).alloc _).alloc _).alloc _).alloc _).alloc _).alloc _
  have k4 : Boxed W1 w.heap.size 9 (.string ⟨#[]⟩) := by rw [← hW1]; exact (((((((Boxed.new w _ _).alloc _).alloc _).alloc _).alloc _).alloc _).alloc _).alloc _
  have k5 : Boxed W1 (w.heap.size + 1) 26 (.slice none 0 0) := by
    rw [← hW1]
    have := ((((((Boxed.new (w.alloc (.cells #[.string ⟨#[]⟩] 9)) 26 (.slice none 0 0)).alloc (.cells #[.int .i64 0] 27)).alloc (.map #[] 0)).alloc (.cells #[.int .i64 0] 3)).alloc (.cells #[.map (some (w.heap.size + 1 + 1 + 1))] 51)).alloc (.cells #[.slice none 0 0] 22)).alloc (.cells #[.int .u32 arch] 23)
    rwa [World.size_alloc] at this
  have k6 : Boxed W1 (w.heap.size + 1 + 1) 27 (.int .i64 0) := by
    rw [← hW1]
    have := (((((Boxed.new ((w.alloc (.cells #[.string ⟨#[]⟩] 9)).alloc (.cells #[.slice none 0 0] 26)) 27 (.int .i64 0)).alloc (.map #[] 0)).alloc (.cells #[.int .i64 0] 3)).alloc (.cells #[.map (some (w.heap.size + 1 + 1 + 1))] 51)).alloc (.cells #[.slice none 0 0] 22)).alloc (.cells #[.int .u32 arch] 23)
    rwa [World.size_alloc, World.size_alloc] at this
  have k7 : Boxed W1 (w.heap.size + 1 + 1 + 1 + 1) 3 (.int .i64 0) := by
    rw [← hW1]
    have := (((Boxed.new ((((w.alloc (.cells #[.string ⟨#[]⟩] 9)).alloc (.cells #[.slice none 0 0] 26)).alloc (.cells #[.int .i64 0] 27)).alloc (.map #[] 0)) 3 (.int .i64 0)).alloc (.cells #[.map (some (w.heap.size + 1 + 1 + 1))] 51)).alloc (.cells #[.slice none 0 0] 22)).alloc (.cells #[.int .u32 arch] 23)
    rwa [World.size_alloc, World.size_alloc, World.size_alloc, World.size_alloc] at this
  have k8 : Boxed W1 (w.heap.size + 1 + 1 + 1 + 1 + 1 + 1) 22 (.slice none 0 0) := by
    rw [← hW1]
    have := (Boxed.new ((((((w.alloc (.cells #[.string ⟨#[]⟩] 9)).alloc (.cells #[.slice none 0 0] 26)).alloc (.cells #[.int .i64 0] 27)).alloc (.map #[] 0)).alloc (.cells #[.int .i64 0] 3)).alloc (.cells #[.map (some (w.heap.size + 1 + 1 + 1))] 51)) 22 (.slice none 0 0)).alloc (.cells #[.int .u32 arch] 23)
    rwa [World.size_alloc, World.size_alloc, World.size_alloc, World.size_alloc, World.size_alloc, World.size_alloc] at this
  have k9 : Boxed W1 (w.heap.size + 1 + 1 + 1 + 1 + 1 + 1 + 1) 23 (.int .u32 arch) := by
    rw [← hW1]
    have := Boxed.new (((((((w.alloc (.cells #[.string ⟨#[]⟩] 9)).alloc (.cells #[.slice none 0 0] 26)).alloc (.cells #[.int .i64 0] 27)).alloc (.map #[] 0)).alloc (.cells #[.int .i64 0] 3)).alloc (.cells #[.map (some (w.heap.size + 1 + 1 + 1))] 51)).alloc (.cells #[.slice none 0 0] 22)) 23 (.int .u32 arch)
    rwa [World.size_alloc, World.size_alloc, World.size_alloc, World.size_alloc, World.size_alloc, World.size_alloc, World.size_alloc] at this
  have hseq := frames_seq w W1 _ _ 0 0 arch none [] hE hx1 ha k8 k9 (Lst.nil w) (fun s hs => by cases hs) 2
  have HSEQ := Lib.hid hseq
  rw [hW1]
  clear hseq hW1 k8 k9 hmm
  refine wpIn_wide.1 (wpIn_rangeFunc_none (F := Fence.wide) (n := 3) rfl (by omega) (gf := 47) (lb := #[.pointer (some ⟨w.heap.size + 1 + 1 + 1 + 1 + 1 + 1, 0, none⟩), .pointer (some ⟨w.heap.size + 1 + 1 + 1 + 1 + 1 + 1 + 1, 0, none⟩)]) (by first | rfl | (simp; rfl)) trivial (enters_of Tryz.func47 (by kernel_rfl) rfl)
    HSEQ.out (Below.refl _ _) (fun _ W => Below W1.heap.size W1 W) (ownFrom_below (Nat.le_refl _) (Nat.le_refl _)) (Below.refl _ _) ?done)
  rintro D xs W hD - hx hK
  have b4 : Boxed W w.heap.size 9 (.string ⟨#[]⟩) := (hx.block _ k4.lt).trans k4
  have b5 : Boxed W (w.heap.size + 1) 26 (.slice none 0 0) := (hx.block _ k5.lt).trans k5
  have b6 : Boxed W (w.heap.size + 1 + 1) 27 (.int .i64 0) := (hx.block _ k6.lt).trans k6
  have b7 : Boxed W (w.heap.size + 1 + 1 + 1 + 1) 3 (.int .i64 0) := (hx.block _ k7.lt).trans k7
  have c4 := b4.cell
  have c5 := b5.cell
  have c6 := b6.cell
  have c7 := b7.cell
  have f4 := b4.frozen
  have f5 := b5.frozen
  have f6 := b6.frozen
  have HB4 := Lib.hid b4
  have HB5 := Lib.hid b5
  have HB6 := Lib.hid b6
  have HK := Lib.hid hK
  have l6 := k6.lt
  clear b4 b5 b6 b7 k4 k5 k6 k7 hK
  go_wp2_with fail
  have hDw : w.heap.size ≤ D := by omega
  have hD4 : w.heap.size ≠ D := by omega
  have hD5 : w.heap.size + 1 ≠ D := by omega
  have hD6 : w.heap.size + 1 + 1 ≠ D := by omega
  generalize hW2 : ((W.setCell ⟨w.heap.size, 0, none⟩ (.string ⟨#[]⟩)).setCell ⟨w.heap.size + 1, 0, none⟩ (.slice none 0 0)).setCell ⟨w.heap.size + 1 + 1, 0, none⟩ (.int .i64 9) = W2
  have e4 : Boxed W2 w.heap.size 9 (.string ⟨#[]⟩) := by rw [← hW2]; exact ((HB4.out.set _).other (by omega) _).other (by omega) _
  have e5 : Boxed W2 (w.heap.size + 1) 26 (.slice none 0 0) := by rw [← hW2]; exact ((HB5.out.other (by omega) _).set _).other (by omega) _
  have e6 : Boxed W2 (w.heap.size + 1 + 1) 27 (.int .i64 9) := by rw [← hW2]; exact (((HB6.out.other (by omega) _).other (by omega) _)).set _
  have hK2 : W2.heap[D]? = some (.deferred (some [])) := by
    rw [← hW2, Below.heap_setCell _ _ _ D hD6.symm, Below.heap_setCell _ _ _ D hD5.symm, Below.heap_setCell _ _ _ D hD4.symm]
    exact HK.out
  have hx2 : Ext w W2 := by rw [← hW2]; exact (((hx1.trans hx).set (Nat.le_refl _) _).set (by show w.heap.size ≤ w.heap.size + 1; omega) _).set (by show w.heap.size ≤ w.heap.size + 1 + 1; omega) _
  clear hW2 c4 c5 c6 c7 f4 f5 f6
  refine ⟨by simp, .inl ⟨_, _, rfl, run_takeDeferred hK2, ?_⟩⟩
  have g4 : Boxed (W2.putObj D (.deferred none)) w.heap.size 9 (.string ⟨#[]⟩) := (World.putObj_heap_other hD4).trans e4
  have g5 : Boxed (W2.putObj D (.deferred none)) (w.heap.size + 1) 26 (.slice none 0 0) := (World.putObj_heap_other hD5).trans e5
  have g6 : Boxed (W2.putObj D (.deferred none)) (w.heap.size + 1 + 1) 27 (.int .i64 9) := (World.putObj_heap_other hD6).trans e6
  have c4 := g4.cell
  have c5 := g5.cell
  have c6 := g6.cell
  refine ⟨.tuple #[.string ⟨#[]⟩, .slice none 0 0, .int .i64 9], ?_, rfl, ?_⟩
  · simp [results, Tryz.results12, go_sem, c4, c5, c6]
  · exact Below.trans hx2 (belowK_b (w := w) (Nat.le_refl _) W2 D _ _ hDw hK2 rfl rfl)

set_option maxRecDepth 100000 in
set_option maxHeartbeats 1600000 in
theorem awake7_any (w : World) (hE : Env w) : Calls Tryz.prog 11 #[] w fun e w' => e = .returned (.bool true) ∧ Ext w w' := by
  have hL := Lib.hid (fun W (h : Env W) => load_nil 7 W h (by decide))
  have h01 : inputL [] 7 = [7] := rfl
  have h02 : inputL [BA [48, 49, 63]] 7 = [7, 0, 1, 2, 3] := by decide +kernel
  have hI0 := Lib.hid (fun W => input_any none 0 0 7 [] W (Lst.nil W) (fun s hs => by cases hs) (by decide))
  have hI1 := Lib.hid (fun W b (h : W.cell? ⟨b, 0, none⟩ = some (.string (BA [48, 49, 63]))) => input_any (some ⟨b, 0, none⟩) 1 1 7 [BA [48, 49, 63]] W ⟨rfl, Nat.le_refl _, by decide, fun _ => ⟨b, 0, rfl, fun i hi => match i, hi with | 0, _ => h⟩⟩ (fun s hs => by
    rw [List.mem_singleton] at hs; rw [hs]; decide) (by rw [h02]; decide))
  rw [h01] at hI0
  rw [h02] at hI1
  go_enter Tryz.func11, Tryz.ntmps11
  go_wp2_with fail
  refine (hL.out _ hE).mono ?_
  rintro e w1 ⟨rfl, hx1⟩
  go_wp2_with fail
  refine (hI0.out _).mono ?_
  rintro e w2 ⟨v0, rfl, ho0, hx2⟩
  obtain ⟨A0, c0, rfl, hl0⟩ := Lst.of_own ho0
  go_wp2_with fail
  refine (hI1.out _ _ ?_).mono ?_
  · show (w2.alloc (.cells #[.string ⟨#[48, 49, 63]⟩] 9)).cell? ⟨w2.heap.size, 0, none⟩ = some (.string ⟨#[48, 49, 63]⟩)
    go_cell
  rintro e w3 ⟨v1, rfl, ho1, hx3⟩
  obtain ⟨A1, c1, rfl, hl1⟩ := Lst.of_own ho1
  have hx3' : Ext w2 w3 := ((Ext.refl w2).alloc _).trans hx3
  obtain ⟨b0, o0, rfl, k0⟩ := (hl0.ext hx3').at_ (by decide)
  obtain ⟨b1, o1, rfl, k1⟩ := hl1.at_ (by decide)
  have r0 := hl0.room
  have r1 := hl1.room
  have m0 := hl0.max
  have m1 := hl1.max
  have q0 : w3.cell? ⟨b0, o0 + 0, none⟩ = some (.int .u32 7) := k0 0 (by decide)
  have p1 : w3.cell? ⟨b1, o1 + 1, none⟩ = some (.int .u32 0) := k1 1 (by decide)
  have p2 : w3.cell? ⟨b1, o1 + 2, none⟩ = some (.int .u32 1) := k1 2 (by decide)
  have p3 : w3.cell? ⟨b1, o1 + 3, none⟩ = some (.int .u32 2) := k1 3 (by decide)
  have p4 : w3.cell? ⟨b1, o1 + 4, none⟩ = some (.int .u32 3) := k1 4 (by decide)
  simp only [List.length_cons, List.length_nil, Nat.zero_add, Nat.add_zero] at r0 r1 q0
  unfold maxLen at m0 m1
  have hxx := (hx1.trans hx2).trans hx3'
  clear k0 k1 ho0 ho1 hl0 hl1 hx1 hx2 hx3 hx3' h01 h02
  go_wp2_with fail
  go_ret
  exact ⟨rfl, hxx⟩
end Go.Proofs.YtlkiaeelnbjchaaGreatDoor
