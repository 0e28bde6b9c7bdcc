/- The plain law of cutting a string at one byte: the library's pieces are the pieces that a scan byte by byte collects. -/
import Derived.Lib.SplitLaws
import Derived.Lib.IndexLaws
import Derived.Lib.CountLaws
import Derived.WalkKit
namespace Go.Proofs.YtimegcnpembhkaaDoor
open Go.Lib

/-- the pieces of l at c, p already collected -/
def cutAt (c : UInt8) : List UInt8 → List UInt8 → List (List UInt8)
  | p, [] => [p]
  | p, b :: l => if b = c then p :: cutAt c [] l else cutAt c (p ++ [b]) l

theorem index_cons_ne (b c : UInt8) (l : List UInt8) (h : b ≠ c) : index (b :: l) [c] = if index l [c] = -1 then -1 else index l [c] + 1 := by
  have := index_drop (s := b :: l) (sub := [c]) (i := 1) (by
    intro j hj
    obtain rfl : j = 0 := by omega
    simp [occAt, List.isPrefixOf, h.symm]) (by simp)
  rw [this]
  simp

theorem index_cons_eq (c : UInt8) (l : List UInt8) : index (c :: l) [c] = 0 :=
  index_first (i := 0) (Nat.zero_le _) (by simp [occAt, List.isPrefixOf]) (fun _ h => absurd h (Nat.not_lt_zero _))

theorem cutAt_index (c : UInt8) : ∀ (l p : List UInt8), cutAt c p l = if index l [c] = -1 then [p ++ l] else (p ++ l.take (index l [c]).toNat) :: cutAt c [] (l.drop ((index l [c]).toNat + 1)) := by
  intro l
  induction l with
  | nil => intro p; rw [if_pos (by rfl)]; simp [cutAt]
  | cons b l ih =>
    intro p
    by_cases h : b = c
    · subst h
      rw [cutAt, if_pos rfl, index_cons_eq, if_neg (by decide)]
      simp
    · rw [cutAt, if_neg h, ih, index_cons_ne b c l h]
      have hg := index_ge l [c]
      by_cases h1 : index l [c] = -1
      · rw [if_pos h1, if_pos (by rw [if_pos h1])]
        simp
      · rw [if_neg h1, if_neg (by rw [if_neg h1]; omega), if_neg h1]
        have h2 : (index l [c] + 1).toNat = (index l [c]).toNat + 1 := by omega
        rw [h2, List.take_succ_cons, List.drop_succ_cons]
        simp

theorem splitK_cutAt (c : UInt8) : ∀ (k : Nat) (l : List UInt8), count l [c] = k → splitK [c] 0 k l = cutAt c [] l := by
  intro k
  induction k with
  | zero =>
    intro l h
    have hi : index l [c] = -1 := by
      have hg := index_ge l [c]
      by_cases h1 : index l [c] = -1
      · exact h1
      · exfalso
        have := count_hit (s := l) (sub := [c]) (i := (index l [c]).toNat) (by simp) (by omega)
        omega
    rw [cutAt_index, if_pos hi]
    simp [splitK]
  | succ k ih =>
    intro l h
    have hg := index_ge l [c]
    have hi : ¬ index l [c] = -1 := by
      intro h1
      have := count_miss h1
      omega
    have hc := count_hit (s := l) (sub := [c]) (i := (index l [c]).toNat) (by simp) (by omega)
    rw [cutAt_index, if_neg hi]
    have e : splitK [c] 0 (k + 1) l = l.take ((index l [c]).toNat + 0) :: splitK [c] 0 k (l.drop ((index l [c]).toNat + 1)) := by
      conv => lhs; unfold splitK
      rw [if_neg (by simpa using hi)]
      rfl
    rw [e, ih]
    · simp
    · simp at hc
      omega

theorem split_cutAt (l : List UInt8) (c : UInt8) : Lib.split l [c] = cutAt c [] l := splitK_cutAt c _ l rfl

/-- the library's pieces of a string, as lists of bytes -/
theorem splitB_cutAt (s : ByteArray) (c : UInt8) : (splitB ⟨#[c]⟩ 0 (countB s ⟨#[c]⟩) s).map (·.data.toList) = cutAt c [] s.data.toList := by
  rw [splitB_data]
  exact split_cutAt s.data.toList c

theorem bytes_inj {a b : ByteArray} (h : a.data.toList = b.data.toList) : a = b := by
  cases a; cases b
  simp only at h
  congr 1
  exact Array.toList_inj.1 h

theorem bytesList_inj : ∀ {l m : List ByteArray}, l.map (·.data.toList) = m.map (·.data.toList) → l = m
  | [], [], _ => rfl
  | [], _ :: _, h => by simp at h
  | _ :: _, [], h => by simp at h
  | a :: l, b :: m, h => by
    simp only [List.map_cons, List.cons.injEq] at h
    rw [bytes_inj h.1, bytesList_inj h.2]

end Go.Proofs.YtimegcnpembhkaaDoor
