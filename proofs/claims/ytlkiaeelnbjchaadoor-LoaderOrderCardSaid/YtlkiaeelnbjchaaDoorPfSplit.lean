/- Contracts: Split of the library and of the reference. (Layer 26) -/
import Derived.Test.YtlkiaeelnbjchaaDoorPfEnc
import Derived.WalkSpells
import Derived.IntWalk
namespace Go.Proofs.YtlkiaeelnbjchaaDoor
open Go.RowKit
open Go.Lib hiding intOf
set_option linter.unusedVariables false

def totalN (n : Nat) : Nat := (n + 63) / 64
/-- a text filled up with spaces -/
def fullB (s : ByteArray) : ByteArray := s ++ BA (List.replicate (totalN s.size * 64 - s.size) 32)
def pieceP (s : ByteArray) (arch i : Nat) : Pc := ⟨arch, (i : Int), (totalN s.size : Int), (fullB s).extract (i * 64) ((i + 1) * 64)⟩
def piecesP (s : ByteArray) (arch : Nat) : List Pc := (List.range (totalN s.size)).map (pieceP s arch)
def splitA (s : ByteArray) (arch : Nat) : List Pc × Int := if 40000 < s.size then ([], 6) else if prB s.data.toList = false then ([], 3) else (piecesP s arch, 0)
def cellsP (l : List Pc) : List Value := l.flatMap Pc.cells
theorem cellsP_snoc (l : List Pc) (p : Pc) : cellsP (l ++ [p]) = cellsP l ++ [.int .u32 p.arch, .int .i64 p.index, .int .i64 p.total, .string p.text] := by simp [cellsP, Pc.cells]
/-- an answer of pieces in new memory -/
def PcPost (w : World) (l : List Pc) (E : Int) (e : Ending) (w' : World) : Prop :=
  ∃ v, e = .returned (.tuple #[v, .int .i64 E]) ∧ w'.ownsRow w.heap.size 39 4 v l.length (cellsP l) ∧ Ext w w'
theorem full_size (s : ByteArray) : (fullB s).size = totalN s.size * 64 := by
  unfold fullB
  rw [ByteArray.size_append, BA_size, List.length_replicate]
  unfold totalN
  omega
theorem pieces_take (s : ByteArray) (arch i : Nat) (h : i < totalN s.size) : (piecesP s arch).take (i + 1) = (piecesP s arch).take i ++ [pieceP s arch i] := by
  unfold piecesP
  rw [List.take_succ_eq_append_getElem (by simpa using h)]
  simp
theorem pieces_len (s : ByteArray) (arch : Nat) : (piecesP s arch).length = totalN s.size := by simp [piecesP]
theorem plainInfo : (Tryd.prog.info? 39).map (fun i => (i.zero, i.size, i.bytes)) = some (some (.agg #[.int .u32 0, .int .i64 0, .int .i64 0, .string ⟨#[]⟩]), 4, 40) := by kernel_rfl

/-- the reference's part of a text: at most 64 bytes from place a on -/
def partQ (s : ByteArray) (a : Nat) : ByteArray := if 64 < (s.extract a s.size).size then (s.extract a s.size).extract 0 64 else s.extract a s.size
theorem app_data (a : ByteArray) (x : List UInt8) : (a ++ BA x).data.toList = a.data.toList ++ x := by simp [BA]
theorem ext_end (s : ByteArray) (a : Nat) : (s.extract a s.size).data.toList = s.data.toList.drop a := by
  rw [ext_BA, BA_data, List.take_of_length_le (by rw [List.length_drop]; exact Nat.le_refl _)]
theorem part_eq (s : ByteArray) (i : Nat) (h : i < totalN s.size) : (partQ s (i * 64)).size ≤ 64 ∧ partQ s (i * 64) ++ BA (List.replicate (64 - (partQ s (i * 64)).size) 32) = (fullB s).extract (i * 64) ((i + 1) * 64) := by
  unfold totalN at h
  have hle : i * 64 ≤ s.data.toList.length := by show i * 64 ≤ s.size; omega
  have hz : (s.extract (i * 64) s.size).size = s.size - i * 64 := by rw [ByteArray.size_extract, Nat.min_self]
  have hR : ((fullB s).extract (i * 64) ((i + 1) * 64)) = BA ((s.data.toList.drop (i * 64) ++ List.replicate (totalN s.size * 64 - s.size) 32).take 64) := by
    rw [ext_BA]
    unfold fullB
    rw [app_data, List.drop_append_of_le_length hle, show (i + 1) * 64 - i * 64 = 64 by omega]
  have hdl : (s.data.toList.drop (i * 64)).length = s.size - i * 64 := List.length_drop ..
  rw [hR]
  unfold partQ
  by_cases h1 : 64 < (s.extract (i * 64) s.size).size
  · rw [if_pos h1]
    have h2 : ((s.extract (i * 64) s.size).extract 0 64).size = 64 := by rw [ByteArray.size_extract]; omega
    refine ⟨Nat.le_of_eq h2, ?_⟩
    rw [h2]
    apply bytes_inj
    rw [app_data, BA_data, ext_BA, BA_data, ext_end, List.take_append_of_le_length (by omega)]
    simp
  · rw [if_neg h1]
    refine ⟨by omega, ?_⟩
    apply bytes_inj
    rw [app_data, BA_data, ext_end, hz]
    have e : totalN s.size * 64 - s.size = 64 - (s.size - i * 64) := by unfold totalN; omega
    rw [e, List.take_of_length_le (by rw [List.length_append, List.length_replicate, hdl]; omega)]

end Go.Proofs.YtlkiaeelnbjchaaDoor
