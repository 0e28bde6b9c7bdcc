/- The plain law of scaling. (Layer 52) -/
import Derived.Test.YthanegmaipckdaaDoorBitLawP
namespace Go.Proofs.YthanegmaipckdaaDoor
open Go.Lib Dec

/-- a row, each character repeated -/
def wideB (k : Nat) (r : Bytes) : Bytes := r.flatMap (List.replicate k)
/-- runs written out, each character repeated -/
def encW (k : Nat) (rs : List (Nat × UInt8)) : Bytes := rs.flatMap fun x => List.replicate (x.1 * k) x.2
def scaledB (k : Nat) (rows : List ByteArray) : List Bytes := rows.flatMap fun r => List.replicate k (wideB k r.data.toList)
/-- the answer of Scale -/
def scaleA (rows : List ByteArray) (factor : Int) : List Bytes × Int :=
  if picE rows ≠ 0 then ([], picE rows) else if factor < 1 ∨ 8 < factor then ([], 2)
  else if 200 < rows.length * factor.toNat ∨ 200 < widthB rows * factor.toNat then ([], 6) else (scaledB factor.toNat rows, 0)
theorem wide_rep (k n : Nat) (c : UInt8) : wideB k (List.replicate n c) = List.replicate (n * k) c := by
  unfold wideB
  induction n with
  | zero => simp
  | succ n ih => rw [List.replicate_succ, List.flatMap_cons, ih, List.replicate_append_replicate, Nat.succ_mul, Nat.add_comm]
theorem wide_append (k : Nat) (a b : Bytes) : wideB k (a ++ b) = wideB k a ++ wideB k b := by simp [wideB]
theorem wide_cells (k : Nat) (rs : List (Nat × UInt8)) : wideB k (cellsR rs) = encW k rs := by
  induction rs with
  | nil => rfl
  | cons x r ih => rw [cellsR_cons, wide_append, wide_rep, ih]; rfl
theorem encW_runs (k : Nat) (r : Bytes) : encW k (runsB r) = wideB k r := by rw [← wide_cells, cells_runsB]
theorem encW_snoc (k : Nat) (a : List (Nat × UInt8)) (x : Nat × UInt8) : encW k (a ++ [x]) = encW k a ++ List.replicate (x.1 * k) x.2 := by simp [encW]
theorem encW_pre (k : Nat) {a b : List (Nat × UInt8)} (h : a <+: b) : (encW k a).length ≤ (encW k b).length := by
  obtain ⟨t, rfl⟩ := h
  simp [encW]
theorem wide_len (k : Nat) (r : Bytes) : (wideB k r).length = r.length * k := by
  unfold wideB
  induction r with
  | nil => simp
  | cons c r ih => rw [List.flatMap_cons, List.length_append, ih, List.length_replicate, List.length_cons, Nat.succ_mul]; omega
theorem scaled_len (k : Nat) (rows : List ByteArray) : (scaledB k rows).length = rows.length * k := by
  unfold scaledB
  induction rows with
  | nil => simp
  | cons r t ih => rw [List.flatMap_cons, List.length_append, ih, List.length_replicate, List.length_cons, Nat.succ_mul]; omega
theorem scaled_take (k : Nat) (rows : List ByteArray) (i : Nat) (h : i < rows.length) : scaledB k (rows.take (i + 1)) = scaledB k (rows.take i) ++ List.replicate k (wideB k rows[i].data.toList) := by
  unfold scaledB
  rw [List.take_succ_eq_append_getElem h, List.flatMap_append, List.flatMap_cons, List.flatMap_nil, List.append_nil]
/-- the same by places -/
theorem scaled_get (k : Nat) (hk : 1 ≤ k) : ∀ (rows : List ByteArray) (i : Nat) (h : i < rows.length * k), (scaledB k rows)[i]? = some (wideB k (rows[i / k]'(by rw [Nat.div_lt_iff_lt_mul (by omega)]; exact h)).data.toList) := by
  intro rows
  induction rows with
  | nil => intro i h; simp at h
  | cons r t ih =>
    intro i h
    unfold scaledB at ih ⊢
    rw [List.flatMap_cons]
    rw [List.length_cons, Nat.succ_mul] at h
    by_cases hik : i < k
    · rw [List.getElem?_append_left (by rw [List.length_replicate]; exact hik), List.getElem?_replicate, if_pos hik]
      have : i / k = 0 := Nat.div_eq_of_lt hik
      simp only [this]
      rfl
    · rw [List.getElem?_append_right (by rw [List.length_replicate]; omega), List.length_replicate, ih (i - k) (by omega)]
      have e : i / k = (i - k) / k + 1 := by
        conv => lhs; rw [show i = (i - k) + k by omega]
        rw [Nat.add_div_right _ (by omega)]
      simp only [e]
      rfl
theorem wide_get (k : Nat) (hk : 1 ≤ k) : ∀ (r : Bytes) (i : Nat) (h : i < r.length * k), (wideB k r)[i]? = some (r[i / k]'(by rw [Nat.div_lt_iff_lt_mul (by omega)]; exact h)) := by
  intro r
  induction r with
  | nil => intro i h; simp at h
  | cons c t ih =>
    intro i h
    unfold wideB at ih ⊢
    rw [List.flatMap_cons]
    rw [List.length_cons, Nat.succ_mul] at h
    by_cases hik : i < k
    · rw [List.getElem?_append_left (by rw [List.length_replicate]; exact hik), List.getElem?_replicate, if_pos hik]
      have : i / k = 0 := Nat.div_eq_of_lt hik
      simp only [this]
      rfl
    · rw [List.getElem?_append_right (by rw [List.length_replicate]; omega), List.length_replicate, ih (i - k) (by omega)]
      have e : i / k = (i - k) / k + 1 := by
        conv => lhs; rw [show i = (i - k) + k by omega]
        rw [Nat.add_div_right _ (by omega)]
      simp only [e]
      rfl
end Go.Proofs.YthanegmaipckdaaDoor
