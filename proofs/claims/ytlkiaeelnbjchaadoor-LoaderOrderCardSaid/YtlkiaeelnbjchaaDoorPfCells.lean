/- Contracts: cells.FromBytes of the library and of the reference. (Layer 26) -/
import Derived.Test.YtlkiaeelnbjchaaDoorAsmLib
import Derived.Laws.BytesArg
import Derived.IntWalk
namespace Go.Proofs.YtlkiaeelnbjchaaDoor
open Go.RowKit
open Go.Lib hiding intOf
set_option linter.unusedVariables false

/-- the cell of a byte at place k from the left -/
def bitC (b : UInt8) (k : Nat) : UInt8 := UInt8.ofNat (48 + b.toNat / 2 ^ (7 - k) % 2)
def bits8 (b : UInt8) : List UInt8 := (List.range 8).map (bitC b)
def cellsB (l : List UInt8) : List UInt8 := l.flatMap bits8
theorem cellsB_len (l : List UInt8) : (cellsB l).length = 8 * l.length := by
  induction l with
  | nil => rfl
  | cons b l ih => show (bits8 b ++ cellsB l).length = _; rw [List.length_append, ih, List.length_cons]; simp [bits8]; omega
theorem cellsB_append (a b : List UInt8) : cellsB (a ++ b) = cellsB a ++ cellsB b := by simp [cellsB]
theorem cellsB_snoc (s : ByteArray) (i : Nat) (h : i < s.size) : cellsB (s.data.toList.take (i + 1)) = cellsB (s.data.toList.take i) ++ bits8 s[i] := by
  rw [List.take_succ_eq_append_getElem (show i < s.data.toList.length from h), cellsB_append]
  show _ ++ (bits8 s.data.toList[i] ++ []) = _
  rw [List.append_nil]; rfl
theorem bits8_take (b : UInt8) (k : Nat) (h : k < 8) : (bits8 b).take (k + 1) = (bits8 b).take k ++ [bitC b k] := by
  unfold bits8
  rw [List.take_succ_eq_append_getElem (by simpa using h)]
  simp
theorem bitC_nat (b : UInt8) (k : Nat) : (bitC b k).toNat = 48 + b.toNat / 2 ^ (7 - k) % 2 := by
  unfold bitC
  rw [UInt8.toNat_ofNat']
  omega

theorem and_one : ∀ m : Fin 256, bits .and .u8 (m.val : Int) 1 = ((m.val % 2 : Nat) : Int) := by decide +kernel
theorem bitC_int (b : UInt8) (k : Nat) : (48 + bits .and .u8 ((b.toNat : Int) / 2 ^ (7 - k)) 1) % 256 = ((bitC b k).toNat : Int) := by
  have h : b.toNat / 2 ^ (7 - k) < 256 := Nat.lt_of_le_of_lt (Nat.div_le_self _ _) b.toNat_lt
  have e : (b.toNat : Int) / 2 ^ (7 - k) = ((b.toNat / 2 ^ (7 - k) : Nat) : Int) := by rw [Int.natCast_ediv, Int.natCast_pow]; rfl
  have h2 := and_one ⟨_, h⟩
  simp only at h2
  rw [e, h2, bitC_nat]
  omega
theorem bits8_full (b : UInt8) : (bits8 b).take 8 = bits8 b := List.take_of_length_le (by simp [bits8])

theorem own_empty (w : World) (base : Nat) (e : TypeId) (size : Nat) (hb : base ≤ w.heap.size) : (w.alloc (.cells #[] e)).ownsRow base e size (.slice (some ⟨w.heap.size, 0, none⟩) 0 0) 0 [] :=
  World.ownsRow_made w #[] 0 hb (by decide) (by simp)
theorem conv_own {w : World} {base n : Nat} {v : Value} {l : List UInt8} (h : w.ownsRow base 5 1 v n (Lib.byteCells l)) (hn : n = l.length) :
    (convert 42 9 v).run Tryd.prog w = .ok (.string (BA l)) w := by
  subst hn
  rcases hv : h.2 with ⟨rfl, h0⟩ | ⟨g, cap, cur, rfl, hh⟩
  · have hl : l = [] := by cases l with | nil => rfl | cons a b => simp at h0
    subst hl
    exact run_convert_bytes_nil (P := Tryd.prog) w 42 5 Tryd.underlying42 Tryd.underlying5 _ _ 9 Tryd.underlying9
  · exact run_convert_bytes_back (P := Tryd.prog) w 42 9 5 ⟨g, 0, none⟩ cap l Tryd.underlying42 Tryd.underlying5 Tryd.underlying9 (fun j hj => h.cells rfl j _ (by unfold Lib.byteCells; rw [List.getElem?_map, List.getElem?_eq_getElem hj]; rfl))

theorem half_k : ∀ m : Fin 8, 128 / 2 ^ m.val = 2 ^ (7 - m.val) ∧ 1 ≤ 128 / 2 ^ m.val ∧ 128 / 2 ^ m.val ≤ 128 ∧ 128 / 2 ^ (m.val + 1) = 128 / 2 ^ m.val / 2 := by decide

end Go.Proofs.YtlkiaeelnbjchaaDoor
