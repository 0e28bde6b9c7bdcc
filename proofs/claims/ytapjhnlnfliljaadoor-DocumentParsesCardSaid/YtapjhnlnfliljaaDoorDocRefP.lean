/- Plain facts for the reference: trimming from the left first, a row cell by cell, a picture by its digits. (Layer 49) -/
import Derived.Test.YtapjhnlnfliljaaDoorDocSpec
namespace Go.Proofs.YtapjhnlnfliljaaDoor
open Go.Lib Dec

def dropR (l : Bytes) : Bytes := (l.reverse.dropWhile (· == 32)).reverse
def dropL (l : Bytes) : Bytes := l.dropWhile (· == 32)
theorem tw_self2 {α : Type} (p : α → Bool) (l : List α) (h : ∀ x ∈ l, p x = true) : l.takeWhile p = l := by
  induction l with
  | nil => rfl
  | cons x l ih =>
    rw [List.takeWhile_cons, if_pos (h x List.mem_cons_self), ih (fun y hy => h y (List.mem_cons_of_mem _ hy))]
theorem dropL_cons (a : UInt8) (t : Bytes) : dropL (a :: t) = if a = 32 then dropL t else a :: t := by
  unfold dropL
  rw [List.dropWhile_cons]
  by_cases h : a = 32 <;> simp [h]
theorem dropR_snoc (t : Bytes) (a : UInt8) : dropR (t ++ [a]) = if a = 32 then dropR t else t ++ [a] := by
  unfold dropR
  rw [List.reverse_append, List.reverse_singleton, List.singleton_append, List.dropWhile_cons]
  by_cases h : a = 32 <;> simp [h]
theorem dropR_cons (a : UInt8) (t : Bytes) : dropR (a :: t) = if dropR t = [] ∧ a = 32 then [] else a :: dropR t := by
  unfold dropR
  rw [List.reverse_cons, List.dropWhile_append]
  by_cases h : (t.reverse.dropWhile (· == 32)).isEmpty = true
  · have h' : t.reverse.dropWhile (· == 32) = [] := List.isEmpty_iff.1 h
    rw [if_pos h, h', List.reverse_nil]
    by_cases ha : a = 32
    · subst ha; simp
    · rw [if_neg (fun e => ha e.2), List.dropWhile_cons]
      simp [ha]
  · rw [if_neg h, List.reverse_append, List.reverse_singleton, List.singleton_append, if_neg]
    rintro ⟨e, -⟩
    apply h
    rw [List.reverse_eq_nil_iff] at e
    rw [e]; rfl
theorem drop_comm : ∀ l : Bytes, dropR (dropL l) = dropL (dropR l)
  | [] => rfl
  | a :: t => by
    have ih := drop_comm t
    rw [dropL_cons]
    by_cases h : a = 32
    · rw [if_pos h, ih, dropR_cons]
      by_cases h2 : dropR t = []
      · rw [if_pos ⟨h2, h⟩, h2]
      · rw [if_neg (fun e => h2 e.1), dropL_cons, if_pos h]
    · rw [if_neg h, dropR_cons, if_neg (fun e => h e.2), dropL_cons, if_neg h]
theorem trim_eq (l : Bytes) : dropR (dropL l) = trimA l := drop_comm l

/-- what the reference sees of a picture: the first digits, at most four, then the rest -/
theorem picA_ref (s : Bytes) (i : Nat) (hi : i ≤ s.length) (h4 : i ≤ 4) (hd : ∀ c ∈ s.take i, dgB c = true) (hstop : i = s.length ∨ i = 4 ∨ ∀ c, s[i]? = some c → dgB c = false) :
    ((i = 0 ∨ s[0]? = some 48 ∨ 200 < valD (s.take i) ∨ s.length ≤ i + 1 ∨ s[i]? ≠ some 32) → picA s = (noB, 3)) ∧
    (1 ≤ i → s[0]? ≠ some 48 → valD (s.take i) ≤ 200 → i + 1 < s.length → s[i]? = some 32 → picA s = if (s.drop (i + 1)).contains 32 = true then (noB, 3) else (⟨4, [], [], s.drop (i + 1), valD (s.take i)⟩, 0)) := by
  have hnd : ∀ c : UInt8, dgB c = true → c ≠ 32 := by
    intro c h e
    subst e
    exact absurd h (by decide)
  have htw : ∀ j, j ≤ i → (s.take j).takeWhile (· ≠ 32) = s.take j := by
    intro j hj
    refine tw_self2 _ _ ?_
    intro c hc
    have : c ∈ s.take i := by
      have h : s.take j <+: s.take i := List.take_prefix_take_left hj
      exact h.subset hc
    simp only [ne_eq, decide_not, Bool.not_eq_eq_eq_not, Bool.not_true, decide_eq_false_iff_not]
    exact hnd c (hd c this)
  -- the word before the first space begins with the digits
  have hnum : s.takeWhile (· ≠ 32) = s.take i ++ (s.drop i).takeWhile (· ≠ 32) := by
    conv => lhs; rw [← List.take_append_drop i s]
    rw [List.takeWhile_append, htw i (Nat.le_refl _), if_pos rfl]
  obtain ⟨num, hN⟩ : ∃ num, num = s.takeWhile (· ≠ 32) := ⟨_, rfl⟩
  have hp : picA s = (match widthA num with | none => (noB, 3) | some n => if s.drop (num.length + 1) = [] ∨ (s.drop (num.length + 1)).contains 32 = true then (noB, 3) else (⟨4, [], [], s.drop (num.length + 1), n⟩, 0)) := by rw [hN]; rfl
  rw [← hN] at hnum
  have hlen : (s.take i).length = i := by rw [List.length_take]; omega
  constructor
  · intro hbad
    rw [hp]
    cases hw : widthA num with
    | none => rfl
    | some n =>
      dsimp only
      obtain ⟨he, h1, h200⟩ := widthA_some hw
      have hall : num ≠ [] ∧ num.all dgB = true ∧ num.head? ≠ some 48 ∧ valD num ≤ 200 := by
        unfold widthA at hw
        split at hw
        · assumption
        · cases hw
      obtain ⟨a1, a2, a3, a4⟩ := hall
      have hshort : num.length ≤ 3 := by
        rw [he]
        exact dec_len (k := 2) (Nat.lt_of_le_of_lt h200 (by decide))
      have hX : (s.drop i).takeWhile (· ≠ 32) = [] := by
        cases hx : (s.drop i).takeWhile (· ≠ 32) with
        | nil => rfl
        | cons c r =>
          exfalso
          rw [hx] at hnum
          have hl : num.length = i + (r.length + 1) := by rw [hnum, List.length_append, hlen, List.length_cons]
          have hc : dgB c = true := List.all_eq_true.1 a2 c (by rw [hnum]; simp)
          have hsc : s[i]? = some c := by
            have h1 : (s.drop i).head? = some c := by
              cases hds : s.drop i with
              | nil => rw [hds] at hx; cases hx
              | cons d q =>
                rw [hds, List.takeWhile_cons] at hx
                split at hx
                · rw [List.head?_cons, (List.cons.inj hx).1]
                · cases hx
            rw [List.head?_drop] at h1
            exact h1
          rcases hstop with h | h | h
          · rw [List.getElem?_eq_none (by omega)] at hsc
            cases hsc
          · omega
          · rw [h c hsc] at hc
            cases hc
      rw [hX, List.append_nil] at hnum
      rw [hnum] at a1 a2 a3 a4 ⊢
      rw [hlen]
      rw [if_pos]
      left
      rcases hbad with h | h | h | h | h
      · subst h
        exact absurd List.take_zero a1
      · exfalso
        have hi1 : i ≠ 0 := by
          intro e
          subst e
          exact a1 List.take_zero
        rw [List.head?_take, if_neg hi1, List.head?_eq_getElem?] at a3
        exact a3 h
      · omega
      · exact List.drop_of_length_le h
      · cases hds : s.drop i with
        | nil =>
          have := congrArg List.length hds
          rw [List.length_drop, List.length_nil] at this
          exact List.drop_of_length_le (by omega)
        | cons d q =>
          exfalso
          have h1 : s[i]? = some d := by rw [← List.head?_drop, hds]; rfl
          rw [hds, List.takeWhile_cons] at hX
          have hd32 : d = 32 := by
            rcases Decidable.em (d = 32) with e | e
            · exact e
            · rw [if_pos (by simpa using e)] at hX
              cases hX
          rw [h1, hd32] at h
          exact h rfl
  · intro g1 g2 g3 g4 g5
    have hdr : s.drop i = 32 :: s.drop (i + 1) := by
      have hlt : i < s.length := by omega
      rw [List.drop_eq_getElem_cons hlt]
      rw [List.getElem?_eq_getElem hlt] at g5
      rw [Option.some.inj g5]
    have hnum2 : num = s.take i := by
      rw [hnum, hdr, List.takeWhile_cons]
      simp
    have hw : widthA num = some (valD (s.take i)) := by
      unfold widthA
      rw [hnum2, if_pos]
      refine ⟨?_, List.all_eq_true.2 hd, ?_, g3⟩
      · intro e
        rw [e] at hlen
        simp at hlen
        omega
      · rw [List.head?_take, if_neg (by omega), List.head?_eq_getElem?]
        exact g2
    rw [hp, hw]
    dsimp only
    rw [hnum2, hlen]
    have hne : s.drop (i + 1) ≠ [] := by
      intro e
      have := congrArg List.length e
      rw [List.length_drop] at this
      simp at this
      omega
    by_cases hc : (s.drop (i + 1)).contains 32 = true
    · rw [if_pos (.inr hc), if_pos hc]
    · rw [if_neg (by rintro (h | h); exact hne h; exact hc h), if_neg hc]
end Go.Proofs.YtapjhnlnfliljaaDoor
