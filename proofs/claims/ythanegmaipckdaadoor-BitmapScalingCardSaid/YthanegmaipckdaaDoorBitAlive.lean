/- The examples of the chapter are answered with true. (Layer 52) -/
import Derived.Test.YthanegmaipckdaaDoorBitExpand
import Derived.Test.YthanegmaipckdaaDoorBitCompress
import Derived.Test.YthanegmaipckdaaDoorBitSame
namespace Go.Proofs.YthanegmaipckdaaDoor
open Go.RowKit
open Go.Lib hiding intOf
set_option linter.unusedVariables false

theorem exA : expA [51, 46, 50, 35, 49, 46] 3 = ([[46, 46, 46], [35, 35, 46]], 0) := by decide +kernel
theorem exC : compZ [⟨#[46, 46, 46]⟩, ⟨#[35, 35, 46]⟩] = ([51, 46, 50, 35, 49, 46], 3, 0) := by
  have h1 : picE [⟨#[46, 46, 46]⟩, ⟨#[35, 35, 46]⟩] = 0 := by decide +kernel
  have h2 : runsB (catB [⟨#[46, 46, 46]⟩, ⟨#[35, 35, 46]⟩]) = [(3, 46), (2, 35), (1, 46)] := by decide +kernel
  unfold compZ
  rw [if_pos h1, h2]
  have d : ∀ n : Fin 10, Lib.decDigits n.val = [UInt8.ofNat (48 + n.val)] := fun n => Dec.dec_small n.isLt
  have d3 := d 3
  have d2 := d 2
  have d1 := d 1
  simp only [encB, List.flatMap_cons, List.flatMap_nil]
  rw [show Lib.decDigits 3 = [51] from d3, show Lib.decDigits 2 = [50] from d2, show Lib.decDigits 1 = [49] from d1]
  rfl

/-- rows that a call has made read as a list -/
theorem RowsPost.open {w w' : World} {rows : List Bytes} {E : Int} {e : Ending} (h : RowsPost w rows E e w') :
    ∃ A cap, e = .returned (.tuple #[.slice A rows.length cap, .int .i64 E]) ∧ Lst w' A rows.length cap ((rows.map BA).map .string) ∧ Ext w w' := by
  obtain ⟨v, rfl, hown, hx⟩ := h
  obtain ⟨A, cap, rfl, hl⟩ := Lst.of_own hown
  exact ⟨A, cap, rfl, by rw [List.map_map]; exact hl, hx⟩

set_option maxHeartbeats 4000000 in
set_option maxRecDepth 100000 in
theorem alive_any (w : World) (hE : Env w) (hY : Sy w) :
    Calls Tryd.prog 10 #[] w fun e w' => e = .returned (.bool true) ∧ Ext w w' := by
  have h1 := bExpand_any (BA [51, 46, 50, 35, 49, 46]) 3 w (by decide) hE hY
  rw [BA_data, exA] at h1
  have h2 := fun A (W : World) (hl : Lst W A 2 2 ([⟨#[46, 46, 46]⟩, ⟨#[35, 35, 46]⟩].map .string)) (h : Env W) => bcompress_any A 2 2 [⟨#[46, 46, 46]⟩, ⟨#[35, 35, 46]⟩] W hl (fun r hr => by
    simp at hr
    rcases hr with rfl | rfl <;> decide) h
  rw [exC] at h2
  have h3 := fun A B c (W : World) (hl : Lst W A 2 c ([⟨#[46, 46, 46]⟩, ⟨#[35, 35, 46]⟩].map .string)) (hk : Lst W B 2 2 ([⟨#[46, 46, 46]⟩, ⟨#[35, 35, 46]⟩].map .string)) => rsame_any A B 2 2 c 2 _ _ W hl hk
  have H1 : Hid (Calls Tryd.prog 11 #[.string ⟨#[51, 46, 50, 35, 49, 46]⟩, .int .i64 3] w fun e w' => ∃ A cap, e = .returned (.tuple #[.slice A 2 cap, .int .i64 0]) ∧ Lst w' A 2 cap ([⟨#[46, 46, 46]⟩, ⟨#[35, 35, 46]⟩].map .string) ∧ Ext w w') := h1.mono fun e w' h => RowsPost.open h
  have H2 := Lib.hid h2
  have H3 := Lib.hid h3
  clear h1 h2 h3
  go_enter Tryd.func10, Tryd.ntmps10
  go_wp2_with fail
  refine H1.out.mono ?_
  rintro e w1 ⟨A, cap, rfl, hl1, hx1⟩
  have hE1 := hE.ext hx1
  have HL1 := Lib.hid hl1
  clear hl1
  go_wp2_with fail
  have hb1 : (w1.alloc (.cells #[.string ⟨#[46, 46, 46]⟩, .string ⟨#[35, 35, 46]⟩] 9)).heap[w1.heap.size]? = some (.cells [.string ⟨#[46, 46, 46]⟩, .string ⟨#[35, 35, 46]⟩].toArray 9 (0, 0)) := World.alloc_heap_new w1 _
  have hE2 := hE1.ext ((Ext.refl w1).alloc (.cells #[.string ⟨#[46, 46, 46]⟩, .string ⟨#[35, 35, 46]⟩] 9))
  refine (H2.out _ _ (Lst.block hb1 rfl (by decide)) hE2).mono ?_
  rintro e w2 ⟨rfl, hx2⟩
  have hx12 := ((Ext.refl w1).alloc _).trans hx2
  have HL2 := Lib.hid (HL1.out.ext hx12)
  unfold BA
  go_wp2_with fail
  have hb2 : (w2.alloc (.cells #[.string ⟨#[46, 46, 46]⟩, .string ⟨#[35, 35, 46]⟩] 9)).heap[w2.heap.size]? = some (.cells [.string ⟨#[46, 46, 46]⟩, .string ⟨#[35, 35, 46]⟩].toArray 9 (0, 0)) := World.alloc_heap_new w2 _
  refine (H3.out _ _ _ _ (HL2.out.ext ((Ext.refl w2).alloc _)) (Lst.block hb2 rfl (by decide))).mono ?_
  rintro e w3 ⟨rfl, hx3⟩
  go_wp2_with fail
  go_ret
  exact ⟨rfl, ((hx1.trans hx12).alloc _).trans hx3⟩
end Go.Proofs.YthanegmaipckdaaDoor
