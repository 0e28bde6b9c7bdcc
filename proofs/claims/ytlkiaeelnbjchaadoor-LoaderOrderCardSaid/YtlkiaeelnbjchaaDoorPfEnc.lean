/- Contracts: Encode of the library and of the reference, the reference's Text. (Layer 26) -/
import Derived.Test.YtlkiaeelnbjchaaDoorPfDig
import Derived.Test.YtlkiaeelnbjchaaDoorPfCheck
import Derived.Test.YtlkiaeelnbjchaaDoorPfCells
namespace Go.Proofs.YtlkiaeelnbjchaaDoor
open Go.RowKit
open Go.Lib hiding intOf
set_option linter.unusedVariables false
attribute [local simp] Slots Slot look Is Oper.looksAt Op.operands Call.operands

/-- a plain frame -/
structure Pc where
  arch : Nat
  index : Int
  total : Int
  text : ByteArray
def Pc.cells (p : Pc) : List Value := [.int .u32 p.arch, .int .i64 p.index, .int .i64 p.total, .string p.text]
def Pc.val (p : Pc) : Value := .agg #[.int .u32 p.arch, .int .i64 p.index, .int .i64 p.total, .string p.text]
/-- the 84 characters of a frame ahead of the seal -/
def headB (p : Pc) : List UInt8 := lowD 10 p.arch ++ lowD 5 p.index.toNat ++ lowD 5 p.total.toNat ++ p.text.data.toList
abbrev plainM : List UInt8 := [48, 48, 48, 48, 48, 49, 49, 48, 48, 49, 48, 49, 48, 49, 49, 49]
/-- the cells of a frame -/
def encL (p : Pc) : List UInt8 := plainM ++ cellsB (sealB (headB p))
def encodeA (p : Pc) : List UInt8 × Int := if checkZ p.index p.total p.text = 0 then (encL p, 0) else ([], checkZ p.index p.total p.text)

theorem check_ok {i t : Int} {s : ByteArray} (h : checkZ i t s = 0) : 1 ≤ t ∧ t ≤ 99999 ∧ 0 ≤ i ∧ i < t ∧ s.size = 64 ∧ prB s.data.toList = true := by
  unfold checkZ at h
  split at h
  · cases h
  · split at h
    · cases h
    · rename_i h1 h2
      refine ⟨by omega, by omega, by omega, by omega, Decidable.of_not_not (fun e => h2 (.inl e)), ?_⟩
      rw [← Bool.not_eq_false]
      exact fun e => h2 (.inr e)
theorem check_ne (i t : Int) (s : ByteArray) (h : checkZ i t s ≠ 0) : checkZ i t s = 1 ∨ checkZ i t s = 2 := by
  unfold checkZ at h ⊢
  split at h
  · rw [if_pos (by assumption)]; exact .inr rfl
  · split at h
    · rw [if_neg (by assumption), if_pos (by assumption)]; exact .inl rfl
    · exact absurd rfl h



theorem head_len {p : Pc} (h : p.text.size = 64) : (headB p).length = 84 := by
  unfold headB
  rw [List.length_append, List.length_append, List.length_append, lowD_len, lowD_len, lowD_len]
  show 10 + 5 + 5 + p.text.size = 84
  omega
theorem seal_len {p : Pc} (h : p.text.size = 64) : (sealB (headB p)).length = 94 := by rw [sealB_len, head_len h]
theorem cells_len {p : Pc} (h : p.text.size = 64) : (cellsB (sealB (headB p))).length = 752 := by rw [cellsB_len, seal_len h]


end Go.Proofs.YtlkiaeelnbjchaaDoor
