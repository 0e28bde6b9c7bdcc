/- The plain law of the law BitmapScaling: scaling twice, counts. (Layer 52) -/
import Derived.Test.YthanegmaipckdaaDoorBitScaleP
namespace Go.Proofs.YthanegmaipckdaaDoor
open Go.Lib Dec

theorem scale_cases (rows : List ByteArray) (k : Nat) : (∃ E, scaleA rows k = ([], E) ∧ E ≠ 0) ∨
    (picE rows = 0 ∧ 1 ≤ k ∧ k ≤ 8 ∧ scaleA rows k = (scaledB k rows, 0) ∧ rows.length * k ≤ 200 ∧ widthB rows * k ≤ 200) := by
  unfold scaleA
  rw [Int.toNat_natCast]
  split
  · exact .inl ⟨_, rfl, by assumption⟩
  · split
    · exact .inl ⟨_, rfl, by decide⟩
    · split
      · exact .inl ⟨_, rfl, by decide⟩
      · exact .inr ⟨Decidable.of_not_not (by assumption), by omega, by omega, rfl, by omega, by omega⟩

theorem rep_flat {α β : Type} (n k : Nat) (a : α) (f : α → β) : (List.replicate n a).flatMap (fun s => List.replicate k (f s)) = List.replicate (n * k) (f a) := by
  induction n with
  | zero => simp
  | succ n ih => rw [List.replicate_succ, List.flatMap_cons, ih, List.replicate_append_replicate, Nat.succ_mul, Nat.add_comm]

theorem wide_wide (x y : Nat) (r : Bytes) : wideB y (wideB x r) = wideB (x * y) r := by
  induction r with
  | nil => rfl
  | cons c r ih =>
    have e : ∀ k (c : UInt8) r, wideB k (c :: r) = List.replicate k c ++ wideB k r := fun _ _ _ => rfl
    rw [e x, wide_append, ih, wide_rep, e (x * y)]

theorem scaled_scaled (x y : Nat) (rows : List ByteArray) : scaledB y ((scaledB x rows).map BA) = scaledB (x * y) rows := by
  unfold scaledB
  rw [List.flatMap_map]
  show List.flatMap (fun s => List.replicate y (wideB y s)) _ = _
  rw [List.flatMap_assoc]
  congr 1
  funext r
  rw [rep_flat, wide_wide]

theorem mem_scaled {k : Nat} {rows : List ByteArray} {l : Bytes} (h : l ∈ scaledB k rows) : ∃ r ∈ rows, l = wideB k r.data.toList := by
  unfold scaledB at h
  obtain ⟨r, hr, hl⟩ := List.mem_flatMap.1 h
  exact ⟨r, hr, (List.mem_replicate.1 hl).2⟩

theorem wide_all (k : Nat) (r : Bytes) (h : r.all isPx = true) : (wideB k r).all isPx = true := by
  rw [List.all_eq_true] at *
  intro c hc
  obtain ⟨d, hd, hc⟩ := List.mem_flatMap.1 hc
  rw [(List.mem_replicate.1 hc).2]
  exact h d hd

theorem pic_scaled {rows : List ByteArray} {k : Nat} (h : picE rows = 0) (h1 : 1 ≤ k) (h2 : rows.length * k ≤ 200) (h3 : widthB rows * k ≤ 200) :
    picE ((scaledB k rows).map BA) = 0 ∧ widthB ((scaledB k rows).map BA) = widthB rows * k := by
  obtain ⟨hne, _, hr⟩ := pic_facts h
  have hl : 1 ≤ rows.length := by cases rows with | nil => exact absurd rfl hne | cons _ _ => simp
  refine picE_all ?_ ?_ ?_
  · rw [List.length_map, scaled_len]; exact Nat.mul_le_mul hl h1
  · rw [List.length_map, scaled_len]; exact h2
  · intro s hs
    obtain ⟨l, hl, rfl⟩ := List.mem_map.1 hs
    obtain ⟨r, hr', rfl⟩ := mem_scaled hl
    obtain ⟨a1, a2, a3, a4⟩ := hr r hr'
    have e : r.data.toList.length = r.size := rfl
    have e2 : (BA (wideB k r.data.toList)).size = widthB rows * k := by rw [BA_size, wide_len, e, a1]
    refine ⟨e2, ?_, by rw [e2]; exact h3, wide_all k _ a4⟩
    rw [e2, ← a1]
    exact Nat.mul_le_mul a2 h1

/-- scaling twice is scaling by the product -/
theorem scale_scale {rows : List ByteArray} {x y : Nat} (h : picE rows = 0) (h1 : 1 ≤ x) (hx : x ≤ 3) (hy1 : 1 ≤ y) (hy : y ≤ 2) (h2 : rows.length * x ≤ 200) (h3 : widthB rows * x ≤ 200) :
    scaleA ((scaledB x rows).map BA) y = scaleA rows (x * y : Nat) := by
  obtain ⟨p, q⟩ := pic_scaled h h1 h2 h3
  unfold scaleA
  have hxy : x * y ≤ 3 * 2 := Nat.mul_le_mul hx hy
  have hxy1 : 1 * 1 ≤ x * y := Nat.mul_le_mul h1 hy1
  have f1 : ¬ (((y : Nat) : Int) < 1 ∨ 8 < ((y : Nat) : Int)) := by omega
  have f2 : ¬ (((x * y : Nat) : Int) < 1 ∨ 8 < ((x * y : Nat) : Int)) := by omega
  rw [if_neg (show ¬ picE ((scaledB x rows).map BA) ≠ 0 from fun e => e p), if_neg (show ¬ picE rows ≠ 0 from fun e => e h), if_neg f1, if_neg f2, q, List.length_map, scaled_len, Int.toNat_natCast, Int.toNat_natCast, scaled_scaled, Nat.mul_assoc, Nat.mul_assoc]

/-- how many of the character lie in the rows -/
def cntL (c : UInt8) (l : List Bytes) : Nat := (l.map fun r => r.count c).sum
theorem cntL_cons (c : UInt8) (a : Bytes) (l : List Bytes) : cntL c (a :: l) = a.count c + cntL c l := rfl
theorem cntL_append (c : UInt8) (a b : List Bytes) : cntL c (a ++ b) = cntL c a + cntL c b := by simp [cntL]
theorem cntL_snoc (c : UInt8) (l : List Bytes) (i : Nat) (h : i < l.length) : cntL c (l.take (i + 1)) = cntL c (l.take i) + l[i].count c := by
  rw [List.take_succ_eq_append_getElem h, cntL_append]; rfl
theorem cntL_le (c : UInt8) (k : Nat) : ∀ l : List Bytes, (∀ r ∈ l, r.length ≤ k) → cntL c l ≤ l.length * k
  | [], _ => Nat.zero_le _
  | a :: l, h => by
    rw [cntL_cons, List.length_cons, Nat.succ_mul]
    have h1 := h a (by simp)
    have h2 := @List.count_le_length _ _ c a
    have h3 := cntL_le c k l (fun r hr => h r (by simp [hr]))
    omega
theorem cnt_wide (c : UInt8) (k : Nat) (r : Bytes) : (wideB k r).count c = k * r.count c := by
  induction r with
  | nil => rfl
  | cons d r ih =>
    have e : wideB k (d :: r) = List.replicate k d ++ wideB k r := rfl
    rw [e, List.count_append, ih, List.count_replicate, List.count_cons, Nat.mul_add]
    split <;> simp [Nat.add_comm]
theorem cntL_rep (c : UInt8) (k : Nat) (r : Bytes) : cntL c (List.replicate k r) = k * r.count c := by
  induction k with
  | zero => simp [cntL]
  | succ k ih => rw [List.replicate_succ, cntL_cons, ih, Nat.succ_mul, Nat.add_comm]
theorem cnt_scaled (c : UInt8) (k : Nat) (rows : List ByteArray) : cntL c (scaledB k rows) = k * k * cntL c (rows.map fun r => r.data.toList) := by
  induction rows with
  | nil => rfl
  | cons r rows ih =>
    have e : scaledB k (r :: rows) = List.replicate k (wideB k r.data.toList) ++ scaledB k rows := rfl
    rw [e, cntL_append, ih, cntL_rep, cnt_wide, List.map_cons, cntL_cons, Nat.mul_add, Nat.mul_assoc k k (List.count _ _)]
end Go.Proofs.YthanegmaipckdaaDoor
