/- A row of bytes that a conversion has made: its cells, a store, the string back. -/
import Derived.Test.YtjmglbppmolipaaGreatDoorMem
import Derived.Test.YtjmglbppmolipaaGreatDoorProg
import Derived.Test.YtjmglbppmolipaaGreatDoorBA
import Derived.Lib.ConvBytes
import Derived.Laws.IdiomStrings
import Derived.Lib.Hide
namespace Go.Proofs.YtjmglbppmolipaaGreatDoor
open Go.RowKit
set_option linter.unusedVariables false

theorem bytesW_ext (w : World) (e : TypeId) (s : ByteArray) : Ext w (Lib.bytesWorld w e s) :=
  ⟨by unfold Lib.bytesWorld World.freeze; split <;> rfl, by unfold Lib.bytesWorld World.freeze; split <;> rfl, by unfold Lib.bytesWorld World.freeze; split <;> rfl,
    by rw [Lib.bytesWorld_size]; omega, fun k hk => Lib.bytesWorld_at_old w e s k hk⟩
theorem bytesW_free (w : World) (e : TypeId) (s : ByteArray) (j : Nat) (hj : j < s.size) : (Lib.bytesWorld w e s).frozen? ⟨w.heap.size, j, none⟩ = false := by
  have h : s.size ≤ (Lib.bytesCells w e s).size := by
    have : s.data.size = s.size := rfl
    simp [Lib.bytesCells]
  simp [World.frozen?, Lib.bytesWorld_at_new]
  intro h2; omega
/-- block B holds the bytes l -/
structure ByteRow (w : World) (B : Nat) (l : List UInt8) : Prop where
  cell : ∀ j, j < l.length → w.cell? ⟨B, j, none⟩ = some (.int .u8 ((l.getD j 0).toNat : Int))
  free : ∀ j, j < l.length → w.frozen? ⟨B, j, none⟩ = false
theorem ByteRow.drew {w : World} {B : Nat} {l : List UInt8} (h : ByteRow w B l) : ByteRow w.drew B l := ⟨h.cell, h.free⟩
theorem ByteRow.drewN {w : World} {B : Nat} {l : List UInt8} (h : ByteRow w B l) (n : Nat) : ByteRow (w.drewN n) B l := ⟨h.cell, h.free⟩
theorem ByteRow.new (w : World) (e : TypeId) (s : ByteArray) : ByteRow (Lib.bytesWorld w e s) w.heap.size s.data.toList :=
  ⟨fun j hj => Lib.bytesWorld_cell w _ s j hj, fun j hj => bytesW_free w _ s j hj⟩
theorem ByteRow.set {w : World} {B : Nat} {l l' : List UInt8} (h : ByteRow w B l) (j : Nat) (x : UInt8) (hj : j < l.length) (hl : l'.length = l.length) (hx : l'.getD j 0 = x)
    (ho : ∀ i, i < l.length → i ≠ j → l'.getD i 0 = l.getD i 0) : ByteRow (w.setCell ⟨B, j, none⟩ (.int .u8 (x.toNat : Int))) B l' := by
  refine ⟨fun i hi => ?_, fun i hi => ?_⟩
  · by_cases hij : i = j
    · subst hij
      rw [World.cell?_setCell_same' _ _ _ (by rw [h.cell i hj]; rfl), hx]
    · have hne : (⟨B, j, none⟩ : Addr) ≠ ⟨B, i, none⟩ := by intro e; exact hij (by cases e; rfl)
      rw [World.cell?_setCell_other _ _ _ _ hne, h.cell i (by omega), ho i (by omega) hij]
  · rw [World.frozen?_setCell]; exact h.free i (by omega)
theorem ByteRow.string {w : World} {B : Nat} {l : List UInt8} (h : ByteRow w B l) (cap : Nat) :
    (convert 46 9 (.slice (some ⟨B, 0, none⟩) l.length cap)).run Tryz.prog w = .ok (.string (BA l)) w :=
  run_convert_bytes_back w 46 9 5 ⟨B, 0, none⟩ cap l Tryz.underlying46 Tryz.underlying5 Tryz.underlying9 (by
    intro j hj
    have ha : (⟨B, 0, none⟩ : Addr).add j = ⟨B, j, none⟩ := by
      unfold Addr.add
      split
      · rename_i h0; rw [h0]
      · rw [Nat.zero_add]
    rw [ha, h.cell j hj, List.getD_eq_getElem?_getD, List.getElem?_eq_getElem hj, Option.getD_some])
/-- one byte of a row after another is mapped -/
theorem map_step (L : List UInt8) (f : UInt8 → UInt8) (k : Nat) (h : k < L.length) :
    ((L.take (k + 1)).map f ++ L.drop (k + 1)).length = ((L.take k).map f ++ L.drop k).length ∧
    ((L.take (k + 1)).map f ++ L.drop (k + 1)).getD k 0 = f L[k] ∧ ((L.take k).map f ++ L.drop k).getD k 0 = L[k] ∧
    (∀ i, i < ((L.take k).map f ++ L.drop k).length → i ≠ k → ((L.take (k + 1)).map f ++ L.drop (k + 1)).getD i 0 = ((L.take k).map f ++ L.drop k).getD i 0) ∧ ((L.take k).map f ++ L.drop k).length = L.length := by
  have e1 : L.take (k + 1) = L.take k ++ [L[k]] := List.take_succ_eq_append_getElem h
  have e2 : L.drop k = L[k] :: L.drop (k + 1) := List.drop_eq_getElem_cons h
  have hl : ((L.take k).map f).length = k := by rw [List.length_map, List.length_take]; omega
  have a1 : (L.take (k + 1)).map f ++ L.drop (k + 1) = (L.take k).map f ++ f L[k] :: L.drop (k + 1) := by rw [e1, List.map_append, List.append_assoc]; rfl
  have a2 : (L.take k).map f ++ L.drop k = (L.take k).map f ++ L[k] :: L.drop (k + 1) := by rw [e2]
  rw [a1, a2]
  have hd : (L.drop (k + 1)).length = L.length - (k + 1) := List.length_drop
  refine ⟨by rw [List.length_append, List.length_append]; rfl, ?_, ?_, fun i hi hik => ?_, by rw [List.length_append, hl, List.length_cons, hd]; omega⟩
  · rw [List.getD_eq_getElem?_getD, List.getElem?_append_right (by omega), hl, Nat.sub_self]; rfl
  · rw [List.getD_eq_getElem?_getD, List.getElem?_append_right (by omega), hl, Nat.sub_self]; rfl
  · rw [List.getD_eq_getElem?_getD, List.getD_eq_getElem?_getD]
    by_cases hlt : i < k
    · rw [List.getElem?_append_left (by omega), List.getElem?_append_left (by omega)]
    · rw [List.getElem?_append_right (by omega), List.getElem?_append_right (by omega), hl]
      obtain ⟨j, hj⟩ : ∃ j, i - k = j + 1 := ⟨i - k - 1, by omega⟩
      rw [hj]; rfl
end Go.Proofs.YtjmglbppmolipaaGreatDoor
