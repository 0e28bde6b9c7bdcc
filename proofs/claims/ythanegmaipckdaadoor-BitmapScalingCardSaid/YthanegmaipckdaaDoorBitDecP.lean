/- The plain law of decoding: where the first cell's byte stands; what is kept of the cells. (Layer 52) -/
import Derived.Test.YthanegmaipckdaaDoorBitParse2
import Derived.Lib.IndexAny
import Derived.Lib.Repeat
namespace Go.Proofs.YthanegmaipckdaaDoor
open Go.Lib Dec

theorem idx_split : ∀ (l cs : Bytes) (e : Nat), indexAny l cs = (e : Int) → ∃ p c r, l = p ++ c :: r ∧ p.length = e ∧ cs.contains c = true ∧ ∀ x ∈ p, cs.contains x = false := by
  intro l cs
  induction l with
  | nil => intro e h; rw [indexAny] at h; omega
  | cons a l ih =>
    intro e h
    rw [indexAny] at h
    cases ha : cs.contains a with
    | true =>
      rw [ha] at h
      simp only [if_true] at h
      exact ⟨[], a, l, rfl, by simp; omega, ha, fun x hx => (by cases hx)⟩
    | false =>
      rw [ha] at h
      simp only [Bool.false_eq_true, if_false] at h
      have hg := indexAny_ge cs l
      by_cases h0 : indexAny l cs = -1
      · rw [h0] at h; simp at h
      · have h00 : (indexAny l cs == -1) = false := beq_eq_false_iff_ne.2 h0
        rw [h00] at h
        simp only [Bool.false_eq_true, if_false] at h
        obtain ⟨p, c, r, h1, h2, h3, h4⟩ := ih (e - 1) (by omega)
        refine ⟨a :: p, c, r, by rw [h1]; rfl, by simp; omega, h3, fun x hx => ?_⟩
        rcases List.mem_cons.1 hx with rfl | hx
        · exact ha
        · exact h4 x hx
theorem idx_some {l : Bytes} {n : Nat} {c : UInt8} {r : Bytes} (h : headR l = some (n, c, r)) : indexAny l [46, 35] = ((decDigits n).length : Int) := by
  obtain ⟨e, _, _, hc⟩ := headR_some h
  subst e
  refine indexAny_hit (x := c) ?_ (by simp) hc
  intro j b hj hb
  rw [List.getElem?_append_left hj] at hb
  have hd := dec_dig n b (List.mem_of_getElem? hb)
  cases hp : ([46, 35] : List UInt8).contains b with
  | false => rfl
  | true =>
    have := px_dg (c := b) hp
    rw [hd] at this; cases this
theorem idx_none {l : Bytes} (h : headR l = none) : indexAny l [46, 35] < 0 ∨ 5 < indexAny l [46, 35] ∨
    ∃ p c r, l = p ++ c :: r ∧ indexAny l [46, 35] = (p.length : Int) ∧ p.length ≤ 5 ∧ (Lib.atoi p = none ∨ ∃ v, Lib.atoi p = some v ∧ (v < 1 ∨ 99999 < v ∨ (1 ≤ v ∧ v ≤ 99999 ∧ Lib.itoa v ≠ p))) := by
  rcases (show indexAny l [46, 35] < 0 ∨ 0 ≤ indexAny l [46, 35] by omega) with h0 | h0
  · exact Or.inl h0
  rcases (show 5 < indexAny l [46, 35] ∨ indexAny l [46, 35] ≤ 5 by omega) with h5 | h5
  · exact Or.inr (Or.inl h5)
  obtain ⟨e, he⟩ := Int.eq_ofNat_of_zero_le h0
  obtain ⟨p, c, r, h1, h2, h3, _⟩ := idx_split l _ e he
  refine Or.inr (Or.inr ⟨p, c, r, h1, by rw [he, h2], by omega, ?_⟩)
  cases hv : Lib.atoi p with
  | none => exact Or.inl rfl
  | some v =>
    refine Or.inr ⟨v, rfl, ?_⟩
    rcases (show v < 1 ∨ 1 ≤ v by omega) with v1 | v1
    · exact Or.inl v1
    rcases (show 99999 < v ∨ v ≤ 99999 by omega) with v2 | v2
    · exact Or.inr (Or.inl v2)
    refine Or.inr (Or.inr ⟨v1, v2, fun hp => ?_⟩)
    obtain ⟨n, hn⟩ := Int.eq_ofNat_of_zero_le (show 0 ≤ v by omega)
    rw [hn, itoa_nonneg] at hp
    have := headR_dec n c r (by omega) (by omega) h3
    rw [hp, ← h1, h] at this
    cases this
theorem take_cells (A : Bytes) (n : Nat) (c : UInt8) : (A ++ List.replicate n c).take 40000 = A.take 40000 ++ List.replicate (min n (40000 - A.length)) c := by
  rw [List.take_append, List.take_replicate, Nat.min_comm]
theorem repeatL_one (c : UInt8) (k : Nat) : Lib.repeatL [c] k = List.replicate k c := by
  have := Lib.repeatL_replicate c 1 k
  rwa [Nat.mul_one] at this
theorem cut_facts (q p r : Bytes) (c : UInt8) (h : q = p ++ c :: r) : q.take p.length = p ∧ q[p.length]? = some c ∧ q.drop (p.length + 1) = r ∧ p.length < q.length := by
  subst h
  refine ⟨by simp, by simp, ?_, by simp⟩
  rw [← List.drop_drop, List.drop_left]; rfl
/-- what decode answers -/
def decS (l : Bytes) : Bytes × Nat × Bool := match parseR 0 l with
  | none => ([], 0, false)
  | some rs => ((cellsR rs).take 40000, totR rs, true)
end Go.Proofs.YthanegmaipckdaaDoor
