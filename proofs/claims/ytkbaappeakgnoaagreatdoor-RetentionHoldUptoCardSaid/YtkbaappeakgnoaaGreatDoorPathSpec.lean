/- The plain law of paths: elements, components, the reason why a path is invalid, being under a directory. -/
import Derived.Test.YtkbaappeakgnoaaGreatDoorSplit
import Derived.Shelf.GgClosure.StringsIndexFunc
import Derived.Laws.RangeAny
import Derived.Laws.RangeString
namespace Go.Proofs.YtkbaappeakgnoaaGreatDoor
open Go.Lib

def slash : ByteArray := ⟨#[47]⟩

/-- the elements of a string -/
def els (s : ByteArray) : List ByteArray := if s.size = 0 then [] else splitB slash 0 (countB s slash) s

theorem els_data (s : ByteArray) (h : s.size ≠ 0) : (els s).map (·.data.toList) = cutAt 47 [] s.data.toList := by
  unfold els slash
  rw [if_neg h]
  exact splitB_cutAt s 47

/-- may a number occur in a component -/
def okC (c : Nat) : Bool := (decide (97 ≤ c) && decide (c ≤ 122)) || (decide (48 ≤ c) && decide (c ≤ 57)) || c == 46 || c == 95 || c == 45

theorem okC_lt (c : Nat) (h : 128 ≤ c) : okC c = false := by
  unfold okC
  simp
  omega

/-- is a string a component -/
def okComp (s : ByteArray) : Bool := decide (1 ≤ s.size) && decide (s.size ≤ 32) && !(s.toList == [46]) && !(s.toList == [46, 46]) && s.data.toList.all fun b => okC b.toNat

theorem idxFrom_ok (s : ByteArray) : ∀ (f pos : Nat), pos ≤ s.size → s.size - pos ≤ f →
    decide (0 ≤ idxFuncFrom (fun x => !okC x) true s f pos) = !(s.data.toList.drop pos).all fun b => okC b.toNat := by
  intro f
  induction f with
  | zero =>
    intro pos h1 h2
    have hp : pos = s.size := by omega
    have hl : s.data.toList.length = s.size := rfl
    rw [List.drop_of_length_le (by omega)]
    simp [idxFuncFrom]
  | succ f ih =>
    intro pos h1 h2
    unfold idxFuncFrom
    by_cases hp : pos < s.size
    · rw [if_pos hp]
      have hl : pos < s.data.toList.length := hp
      have hd : s.data.toList.drop pos = s[pos] :: s.data.toList.drop (pos + 1) := List.drop_eq_getElem_cons hl
      rw [hd, List.all_cons]
      by_cases ha : (s[pos]).toNat < 128
      · rw [decode_ascii s pos hp ha]
        simp only []
        cases ho : okC (s[pos]).toNat with
        | false => simp
        | true =>
          rw [if_neg (by simp)]
          rw [ih (pos + 1) (by omega) (by omega)]
          simp
      · obtain ⟨h3, h4⟩ := decode_high s pos hp (by omega)
        rw [okC_lt _ h3, okC_lt _ (show 128 ≤ (s[pos]).toNat by omega)]
        simp
    · rw [if_neg hp]
      have hl : s.data.toList.length = s.size := rfl
      rw [List.drop_of_length_le (by omega)]
      simp

theorem idx_ok (s : ByteArray) : decide (0 ≤ idxFunc (fun x => !okC x) true s) = !s.data.toList.all fun b => okC b.toNat := by
  have := idxFrom_ok s s.size 0 (Nat.zero_le _) (by omega)
  rw [List.drop_zero] at this
  exact this

/-- why a path is invalid -/
def chk (s : ByteArray) : Int := if 200 < s.size then 6 else if 8 < (els s).length then 6 else if (els s).all okComp then 0 else 7

theorem els_length (s : ByteArray) : (els s).length ≤ s.size + 1 := by
  unfold els
  split
  · simp
  · have h1 : 1 ≤ slash.size := by decide
    have h2 := countB_le slash h1 s.size s (Nat.le_refl _)
    have h3 := splitB_length_le slash 0 (countB s slash) s
    omega

theorem els_mem_size (s : ByteArray) : ∀ x ∈ els s, x.size ≤ s.size := by
  unfold els
  split
  · intro x hx; simp at hx
  · have key : ∀ (k : Nat) (t : ByteArray), ∀ x ∈ splitB slash 0 k t, x.size ≤ t.size := by
      intro k
      induction k with
      | zero => intro t x hx; simp [splitB] at hx; subst hx; exact Nat.le_refl _
      | succ k ih =>
        intro t x hx
        unfold splitB at hx
        split at hx
        · simp at hx; subst hx; exact Nat.le_refl _
        · rcases List.mem_cons.1 hx with h | h
          · subst h; rw [ByteArray.size_extract]; omega
          · have := ih _ x h
            rw [ByteArray.size_extract] at this
            omega
    exact key _ s

/-- is a path under a directory -/
def under (p d : ByteArray) : Bool := chk p == 0 && chk d == 0 && decide ((els p).take (els d).length = els d)

end Go.Proofs.YtkbaappeakgnoaaGreatDoor
