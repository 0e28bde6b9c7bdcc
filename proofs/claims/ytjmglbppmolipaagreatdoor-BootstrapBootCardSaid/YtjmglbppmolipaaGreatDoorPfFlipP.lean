/- Cells exchanged in a window, one cell inverted or unreadable: what Decode answers. (Layer 26) -/
import Derived.Test.YtjmglbppmolipaaGreatDoorPfDecP
namespace Go.Proofs.YtjmglbppmolipaaGreatDoor

theorem byte_back : ∀ a b c d e f g h : Bool, bits8 (byteC ([a, b, c, d, e, f, g, h].map fun x => if x then (49 : UInt8) else 48)) = [a, b, c, d, e, f, g, h].map fun x => if x then (49 : UInt8) else 48 := by decide +kernel
theorem byte_cells (l : List UInt8) (h : l.length = 8) (hc : ∀ c ∈ l, c = 48 ∨ c = 49) : bits8 (byteC l) = l := by
  have hb := cells_back l hc
  match l, h with
  | [a, b, c, d, e, f, g, i], _ =>
    rw [← hb]
    exact byte_back _ _ _ _ _ _ _ _
theorem bytesC_eight (a b : List UInt8) (h : a.length = 8) : bytesC (a ++ b) = byteC a :: bytesC b := by
  unfold bytesC
  rw [List.length_append, h, show (8 + b.length) / 8 = b.length / 8 + 1 by omega, List.range_succ_eq_map, List.map_cons, List.map_map]
  congr 1
  · rw [Nat.zero_mul, List.drop_zero, List.take_append_of_le_length (by omega), List.take_of_length_le (by omega)]
  · refine List.map_congr_left fun i _ => ?_
    show byteC (((a ++ b).drop ((i + 1) * 8)).take 8) = _
    rw [show (i + 1) * 8 = 8 + i * 8 by omega, ← h, List.drop_append, List.drop_eq_nil_of_le (by omega), h]
    simp
theorem cells_bytes : ∀ (n : Nat) (l : List UInt8), l.length = 8 * n → (∀ c ∈ l, c = 48 ∨ c = 49) → cellsB (bytesC l) = l
  | 0, l, h, _ => by
    have : l = [] := List.eq_nil_of_length_eq_zero (by omega)
    subst this; rfl
  | n + 1, l, h, hc => by
    have e : l = l.take 8 ++ l.drop 8 := (List.take_append_drop 8 l).symm
    have h8 : (l.take 8).length = 8 := by rw [List.length_take]; omega
    have e2 : bytesC l = byteC (l.take 8) :: bytesC (l.drop 8) := by conv => lhs; rw [e]
                                                                     exact bytesC_eight _ _ h8
    rw [e2]
    show bits8 _ ++ cellsB _ = l
    rw [byte_cells _ h8 (fun c hm => hc c (List.mem_of_mem_take hm)), cells_bytes n _ (by rw [List.length_drop]; omega) (fun c hm => hc c (List.mem_of_mem_drop hm)), ← e]

/-- other cells in a window of 32 in the first 84 characters -/
theorem decode_window (l c' : List UInt8) (k : Nat) (hl : l.length = 84) (hz : c'.length = 752) (hc : ∀ c ∈ c', c = 48 ∨ c = 49) (h1 : (cellsB (sealB l)).take k = c'.take k) (h2 : (cellsB (sealB l)).drop (k + 32) = c'.drop (k + 32)) (hk : k + 32 ≤ 672) (hne : c' ≠ cellsB (sealB l)) :
    decodeA c' = (zP, 5) := by
  have hb := cells_bytes 94 c' hz hc
  have hlen : (bytesC c').length = 94 := by rw [bytesC_len, hz]
  rw [← hb, decode_cells _ hlen]
  rw [← hb] at h1 h2 hne
  exact text_window l (bytesC c') k hl hlen h1 h2 hk (fun e => hne (by rw [e]))
/-- another cell behind the first 84 characters -/
theorem decode_tail (l c' : List UInt8) (hl : l.length = 84) (hz : c'.length = 752) (hc : ∀ c ∈ c', c = 48 ∨ c = 49) (h1 : (cellsB (sealB l)).take 672 = c'.take 672) (hne : c' ≠ cellsB (sealB l)) :
    decodeA c' = (zP, 5) := by
  have hb := cells_bytes 94 c' hz hc
  have hlen : (bytesC c').length = 94 := by rw [bytesC_len, hz]
  rw [← hb, decode_cells _ hlen]
  rw [← hb] at h1 hne
  refine text_tail l (bytesC c') hl ?_ (fun e => hne (by rw [e]))
  have e1 : cellsB (sealB l) = cellsB l ++ cellsB (lowD 10 (crcS l)) := by unfold sealB; rw [cellsB_append]
  have e2 : cellsB (bytesC c') = cellsB ((bytesC c').take 84) ++ cellsB ((bytesC c').drop 84) := by rw [← cellsB_append, List.take_append_drop]
  have n1 : (cellsB l).length = 672 := by rw [cellsB_len, hl]
  have n2 : (cellsB ((bytesC c').take 84)).length = 672 := by rw [cellsB_len, List.length_take, hlen]; rfl
  rw [e1, e2, List.take_append_of_le_length (by omega), List.take_append_of_le_length (by omega), List.take_of_length_le (by omega), List.take_of_length_le (by omega)] at h1
  exact (cellsB_inj _ _ h1).symm

/-- one cell inverted -/
def invC (c : UInt8) : UInt8 := if c = 48 then 49 else if c = 49 then 48 else c
theorem decode_inv (l : List UInt8) (hl : l.length = 84) (k : Nat) (hk : k < 752) (c : UInt8) (hc : (cellsB (sealB l))[k]? = some c) :
    decodeA ((cellsB (sealB l)).take k ++ [invC c] ++ (cellsB (sealB l)).drop (k + 1)) = (zP, 5) := by
  have hz : (cellsB (sealB l)).length = 752 := by rw [cellsB_len, sealB_len, hl]
  have hm := cells_mem (sealB l)
  generalize hX : cellsB (sealB l) = X at *
  have hkc : X[k]'(by omega) = c := by rw [List.getElem?_eq_getElem (by omega)] at hc; injection hc
  have hcc : c = 48 ∨ c = 49 := by rw [← hkc]; exact hm _ (List.getElem_mem _)
  have hi : (invC c = 48 ∨ invC c = 49) ∧ invC c ≠ c := by rcases hcc with rfl | rfl <;> decide
  have hz2 : (X.take k ++ [invC c] ++ X.drop (k + 1)).length = 752 := by rw [List.length_append, List.length_append, List.length_take, List.length_drop]; simp; omega
  have hc2 : ∀ x ∈ X.take k ++ [invC c] ++ X.drop (k + 1), x = 48 ∨ x = 49 := by
    intro x hx
    rw [List.mem_append, List.mem_append] at hx
    rcases hx with (hx | hx) | hx
    · exact hm _ (List.mem_of_mem_take hx)
    · rw [List.mem_singleton] at hx; rw [hx]; exact hi.1
    · exact hm _ (List.mem_of_mem_drop hx)
  have hg : ∀ j, j < 752 → j ≠ k → (X.take k ++ [invC c] ++ X.drop (k + 1))[j]? = X[j]? := by
    intro j hj hjk
    by_cases h : j < k
    · rw [List.append_assoc, List.getElem?_append_left (by rw [List.length_take]; omega), List.getElem?_take_of_lt h]
    · rw [List.getElem?_append_right (by rw [List.length_append, List.length_take]; simp; omega), List.getElem?_drop, List.length_append, List.length_take]
      congr 1
      simp
      omega
  have hne : X.take k ++ [invC c] ++ X.drop (k + 1) ≠ X := by
    intro e
    have : (X.take k ++ [invC c] ++ X.drop (k + 1))[k]? = X[k]? := by rw [e]
    rw [List.append_assoc, List.getElem?_append_right (by rw [List.length_take]; omega), List.length_take, show k - min k X.length = 0 by omega] at this
    rw [hc] at this
    injection this with this
    exact hi.2 this
  generalize X.take k ++ [invC c] ++ X.drop (k + 1) = Y at *
  by_cases h : k < 672
  · obtain ⟨q, hq1, hq2, hq3⟩ : ∃ q, q ≤ k ∧ k < q + 32 ∧ q + 32 ≤ 672 := by
      by_cases h6 : k ≤ 640
      · exact ⟨k, Nat.le_refl _, by omega, by omega⟩
      · exact ⟨640, by omega, by omega, by omega⟩
    refine decode_window l Y q hl hz2 hc2 ?_ ?_ hq3 (by rw [hX]; exact hne)
    · rw [hX]
      apply List.ext_getElem?
      intro j
      by_cases hj : j < q
      · rw [List.getElem?_take_of_lt hj, List.getElem?_take_of_lt hj, hg j (by omega) (by omega)]
      · rw [List.getElem?_eq_none (by rw [List.length_take]; omega), List.getElem?_eq_none (by rw [List.length_take]; omega)]
    · rw [hX]
      apply List.ext_getElem?
      intro j
      rw [List.getElem?_drop, List.getElem?_drop]
      by_cases hj : q + 32 + j < 752
      · rw [hg _ hj (by omega)]
      · rw [List.getElem?_eq_none (by omega), List.getElem?_eq_none (by omega)]
  · refine decode_tail l Y hl hz2 hc2 ?_ (by rw [hX]; exact hne)
    rw [hX]
    apply List.ext_getElem?
    intro j
    by_cases hj : j < 672
    · rw [List.getElem?_take_of_lt hj, List.getElem?_take_of_lt hj, hg j (by omega) (by omega)]
    · rw [List.getElem?_eq_none (by rw [List.length_take]; omega), List.getElem?_eq_none (by rw [List.length_take]; omega)]
/-- one cell unreadable -/
theorem decode_open (X : List UInt8) (hz : X.length = 752) (hm : ∀ c ∈ X, c = 48 ∨ c = 49) (k : Nat) (hk : k < 752) : decodeA (X.take k ++ [63] ++ X.drop (k + 1)) = (zP, 11) := by
  have hz2 : (X.take k ++ [63] ++ X.drop (k + 1)).length = 752 := by rw [List.length_append, List.length_append, List.length_take, List.length_drop]; simp; omega
  unfold decodeA
  rw [cells_oks, if_neg (by decide), if_neg (by omega), if_pos]
  · rw [List.contains_iff_mem]; simp
  · intro x hx
    rw [List.mem_append, List.mem_append] at hx
    rcases hx with (hx | hx) | hx
    · exact (hm _ (List.mem_of_mem_take hx)).imp id .inl
    · rw [List.mem_singleton] at hx; exact .inr (.inr hx)
    · exact (hm _ (List.mem_of_mem_drop hx)).imp id .inl

/-- the first i cells from k on exchanged where the pattern has a bit -/
def flipC (X : List UInt8) (k p i : Nat) : List UInt8 := X.mapIdx fun j x => if k ≤ j ∧ j < k + i then x ^^^ UInt8.ofNat (p / 2 ^ (j - k) % 2) else x
theorem flipC_len (X : List UInt8) (k p i : Nat) : (flipC X k p i).length = X.length := by simp [flipC]
theorem flipC_get (X : List UInt8) (k p i j : Nat) (h : j < X.length) : (flipC X k p i)[j]'(by rw [flipC_len]; exact h) = if k ≤ j ∧ j < k + i then X[j] ^^^ UInt8.ofNat (p / 2 ^ (j - k) % 2) else X[j] := by simp [flipC]
theorem flipC_zero (X : List UInt8) (k p : Nat) : flipC X k p 0 = X := by
  apply List.ext_getElem (by rw [flipC_len])
  intro j h1 h2
  rw [flipC_get X k p 0 j h2, if_neg (by omega)]
theorem xor_bit (x : UInt8) (n : Nat) (hx : x = 48 ∨ x = 49) : (x ^^^ UInt8.ofNat (n % 2) = 48 ∨ x ^^^ UInt8.ofNat (n % 2) = 49) ∧ (n % 2 = 1 → x ^^^ UInt8.ofNat (n % 2) ≠ x) := by
  have : n % 2 = 0 ∨ n % 2 = 1 := by omega
  rcases this with h | h <;> rw [h] <;> rcases hx with rfl | rfl <;> decide
theorem bit_of_ne {p : Nat} (h0 : p ≠ 0) (h : p < 2 ^ 32) : ∃ i, i < 32 ∧ p / 2 ^ i % 2 = 1 := by
  apply Classical.byContradiction
  intro hn
  apply h0
  apply Nat.eq_of_testBit_eq
  intro i
  rw [Nat.zero_testBit]
  by_cases hi : i < 32
  · have : ¬ p / 2 ^ i % 2 = 1 := fun e => hn ⟨i, hi, e⟩
    rw [Nat.testBit_eq_decide_div_mod_eq]
    simp [this]
  · exact Nat.testBit_lt_two_pow (Nat.lt_of_lt_of_le h (Nat.pow_le_pow_right (by decide) (by omega)))
/-- a burst -/
theorem decode_burst (l : List UInt8) (hl : l.length = 84) (k p : Nat) (hk : k ≤ 640) (h0 : p ≠ 0) (hp : p < 2 ^ 32) : decodeA (flipC (cellsB (sealB l)) k p 32) = (zP, 5) := by
  have hz : (cellsB (sealB l)).length = 752 := by rw [cellsB_len, sealB_len, hl]
  have hm := cells_mem (sealB l)
  have hlen := flipC_len (cellsB (sealB l)) k p 32
  have hg := flipC_get (cellsB (sealB l)) k p 32
  refine decode_window l _ k hl (by rw [hlen, hz]) ?_ ?_ ?_ (by omega) ?_
  · intro x hx
    obtain ⟨j, hj, rfl⟩ := List.getElem_of_mem hx
    rw [hlen] at hj
    rw [hg j hj]
    have hxj := hm _ (List.getElem_mem hj)
    split
    · exact (xor_bit _ _ hxj).1
    · exact hxj
  · apply List.ext_getElem (by rw [List.length_take, List.length_take, hlen])
    intro j h1 h2
    rw [List.length_take] at h1
    rw [List.getElem_take, List.getElem_take, hg j (by omega), if_neg (by omega)]
  · apply List.ext_getElem (by rw [List.length_drop, List.length_drop, hlen])
    intro j h1 h2
    rw [List.length_drop] at h1
    rw [List.getElem_drop, List.getElem_drop, hg _ (by omega), if_neg (by omega)]
  · intro e
    obtain ⟨i, hi, hb⟩ := bit_of_ne h0 hp
    have h1 := hg (k + i) (by omega)
    rw [if_pos (by omega), Nat.add_sub_cancel_left] at h1
    have h2 : (flipC (cellsB (sealB l)) k p 32)[k + i]'(by rw [hlen]; omega) = (cellsB (sealB l))[k + i]'(by omega) := by congr 1
    rw [h1] at h2
    exact (xor_bit _ _ (hm _ (List.getElem_mem _))).2 hb h2
end Go.Proofs.YtjmglbppmolipaaGreatDoor
