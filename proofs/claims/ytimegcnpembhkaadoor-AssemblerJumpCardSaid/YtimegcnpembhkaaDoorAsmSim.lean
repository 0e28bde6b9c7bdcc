/- The plain law of another origin: the texts have the same length and differ at digits alone; the labels are shifted. -/
import Derived.Test.YtimegcnpembhkaaDoorAsmAsm
namespace Go.Proofs.YtimegcnpembhkaaDoor
open Go.RowKit
open Go.Lib hiding intOf
set_option linter.unusedVariables false

/-- alike but for digits -/
inductive Sim : Bytes → Bytes → Prop
  | nil : Sim [] []
  | cons {x y : UInt8} {l m : Bytes} : (x = y ∨ (isDig x = true ∧ isDig y = true)) → Sim l m → Sim (x :: l) (y :: m)
theorem Sim.refl : ∀ l : Bytes, Sim l l
  | [] => .nil
  | x :: l => .cons (Or.inl rfl) (Sim.refl l)
theorem Sim.append {a b c d : Bytes} (h : Sim a b) (k : Sim c d) : Sim (a ++ c) (b ++ d) := by
  induction h with
  | nil => exact k
  | cons h _ ih => exact .cons h ih
theorem Sim.length {a b : Bytes} (h : Sim a b) : a.length = b.length := by
  induction h with
  | nil => rfl
  | cons _ _ ih => simp [ih]
theorem Sim.get {a b : Bytes} (h : Sim a b) : ∀ (i : Nat) (h1 : i < a.length) (h2 : i < b.length), a[i] = b[i] ∨ (isDig a[i] = true ∧ isDig b[i] = true) := by
  induction h with
  | nil => intro i h1; simp at h1
  | cons h _ ih =>
    intro i h1 h2
    match i with
    | 0 => exact h
    | i + 1 => exact ih i (by simpa using h1) (by simpa using h2)
theorem Sim.dig {x y : UInt8} (h : x = y ∨ (isDig x = true ∧ isDig y = true)) : isDig x = isDig y := by
  rcases h with rfl | ⟨h, k⟩
  · rfl
  · rw [h, k]
theorem Sim.head {a b : Bytes} (h : Sim a b) : isDig (headB a) = isDig (headB b) := by
  cases h with
  | nil => rfl
  | cons h _ => exact Sim.dig h
theorem Sim.last {a b : Bytes} (h : Sim a b) : isDig (lastB a) = isDig (lastB b) := by
  by_cases h0 : a.length = 0
  · have h1 : b.length = 0 := by rw [← h.length]; exact h0
    rw [List.eq_nil_of_length_eq_zero h0, List.eq_nil_of_length_eq_zero h1]
  · have h2 := h.length
    unfold lastB
    rw [List.getLast?_eq_getElem?, List.getLast?_eq_getElem?, List.getElem?_eq_getElem (by omega), List.getElem?_eq_getElem (by omega)]
    simp only [Option.getD_some]
    have := h.get (a.length - 1) (by omega) (by omega)
    have e : b[a.length - 1]'(by omega) = b[b.length - 1]'(by omega) := by congr 1; omega
    rw [← e]
    exact Sim.dig this
theorem Sim.glue {a b c d : Bytes} (h : Sim a b) (k : Sim c d) : Sim (glue a c) (glue b d) := by
  unfold Go.Proofs.YtimegcnpembhkaaDoor.glue
  rw [h.last, k.head]
  split
  · exact (h.append (Sim.refl _)).append k
  · exact h.append k
theorem Sim.digs : ∀ (a b : Bytes), a.length = b.length → (∀ c ∈ a, isDig c = true) → (∀ c ∈ b, isDig c = true) → Sim a b
  | [], [], _, _, _ => .nil
  | [], _ :: _, h, _, _ => by simp at h
  | _ :: _, [], h, _, _ => by simp at h
  | x :: a, y :: b, h, h1, h2 => .cons (Or.inr ⟨h1 x (by simp), h2 y (by simp)⟩) (Sim.digs a b (by simpa using h) (fun c hc => h1 c (by simp [hc])) (fun c hc => h2 c (by simp [hc])))
theorem sim_addS (f g : Bytes → Int) (t : Tok) : Sim (addS f t) (addS g t) := by
  unfold addS
  split
  · exact Sim.digs _ _ (by unfold sixA; rw [digs_length, digs_length]) (fun c hc => digs_dig _ _ c hc) (fun c hc => digs_dig _ _ c hc)
  · exact Sim.refl _

/-- labels shifted by a difference -/
inductive Shift (d : Int) : List Lab → List Lab → Prop
  | nil : Shift d [] []
  | cons {x y : Lab} {l m : List Lab} : x.1 = y.1 → x.2 - y.2 = d → Shift d l m → Shift d (x :: l) (y :: m)
theorem Shift.snoc {d : Int} {l m : List Lab} {x y : Lab} (h : Shift d l m) (h1 : x.1 = y.1) (h2 : x.2 - y.2 = d) : Shift d (l ++ [x]) (m ++ [y]) := by
  induction h with
  | nil => exact .cons h1 h2 .nil
  | cons h3 h4 _ ih => exact .cons h3 h4 ih
theorem Shift.length {d : Int} {l m : List Lab} (h : Shift d l m) : l.length = m.length := by
  induction h with
  | nil => rfl
  | cons _ _ _ ih => simp [ih]
theorem Shift.get {d : Int} {l m : List Lab} (h : Shift d l m) : ∀ (i : Nat) (h1 : i < l.length) (h2 : i < m.length), l[i].1 = m[i].1 ∧ l[i].2 - m[i].2 = d := by
  induction h with
  | nil => intro i h1; simp at h1
  | cons h k _ ih =>
    intro i h1 h2
    match i with
    | 0 => exact ⟨h, k⟩
    | i + 1 => exact ih i (by simpa using h1) (by simpa using h2)

theorem build_sim (f g : Bytes → Int) (a b : Int) : ∀ (l : List Tok) (s t : Bytes) (p q : List Lab), Sim s t → Shift (a - b) p q →
    Sim (buildA f a s p l).1 (buildA g b t q l).1 ∧ Shift (a - b) (buildA f a s p l).2 (buildA g b t q l).2 := by
  intro l
  induction l with
  | nil => intro s t p q h k; exact ⟨h, k⟩
  | cons x r ih =>
    intro s t p q h k
    unfold buildA
    cases defN x.1 with
    | some m => exact ih _ _ _ _ h (k.snoc rfl (by simp only; rw [h.length]; omega))
    | none => exact ih _ _ _ _ (h.glue (sim_addS f g x)) k

theorem asm_sim (src : Bytes) (a b : Int) (ha : 0 ≤ a ∧ a < 262144) (hb : 0 ≤ b ∧ b < 262144) :
    Sim (asmA src a).1 (asmA src b).1 ∧ Shift (a - b) (asmA src a).2.1 (asmA src b).2.1 ∧ (asmA src a).2.2 = (asmA src b).2.2 := by
  unfold asmA
  rw [if_neg (show ¬ (a < 0 ∨ 262144 ≤ a) by omega), if_neg (show ¬ (b < 0 ∨ 262144 ≤ b) by omega)]
  by_cases hc : (chkA (toks src)).2 ≠ 0
  · rw [if_pos hc, if_pos hc]
    exact ⟨.nil, .nil, rfl⟩
  · rw [if_neg hc, if_neg hc]
    have h := build_sim (lookI (buildA (fun _ => 0) a [] [] (toks src)).2) (lookI (buildA (fun _ => 0) b [] [] (toks src)).2) a b (toks src) [] [] [] [] .nil .nil
    by_cases hl : 40000 < (buildA (lookI (buildA (fun _ => 0) a [] [] (toks src)).2) a [] [] (toks src)).1.length
    · rw [if_pos hl, if_pos (by rw [← h.1.length]; exact hl)]
      exact ⟨.nil, .nil, rfl⟩
    · rw [if_neg hl, if_neg (by rw [← h.1.length]; exact hl)]
      exact ⟨h.1, h.2, rfl⟩

/-- what the answers hold -/
theorem asm_bound (src : Bytes) (a : Int) (hs : src.length ≤ 100000) : (asmA src a).1.length ≤ 40000 ∧ (asmA src a).2.1.length ≤ 100000 ∧ ∀ x ∈ (asmA src a).2.1, x.1.length ≤ 100000 ∧ 0 ≤ x.2 ∧ x.2 ≤ 20000000000 := by
  unfold asmA
  by_cases h1 : a < 0 ∨ 262144 ≤ a
  · rw [if_pos h1]; exact ⟨by simp, by simp, fun x hx => by cases hx⟩
  rw [if_neg h1]
  by_cases hc : (chkA (toks src)).2 ≠ 0
  · rw [if_pos hc]; exact ⟨by simp, by simp, fun x hx => by cases hx⟩
  rw [if_neg hc]
  have htl := toks_length src
  have htm := toks_mem src
  have hfit2 : Fits2 (toks src) := fun t ht => ⟨by have := (htm t ht).2.1; omega, (htm t ht).1⟩
  have hbl := buildA_labs (fun _ => 0) (fun _ => Int.le_refl _) a (toks src) [] [] hfit2
  have hlk : ∀ k, 0 ≤ lookI (buildA (fun _ => 0) a [] [] (toks src)).2 k := by
    intro k
    rcases lookI_mem (buildA (fun _ => 0) a [] [] (toks src)).2 k with h | ⟨x, hx, h⟩
    · rw [h]; exact Int.le_refl _
    · rcases hbl.2 x hx with h' | ⟨_, h4, h5⟩
      · cases h'
      · rw [h]; omega
  have hb2 := buildA_labs _ hlk a (toks src) [] [] hfit2
  by_cases hl : 40000 < (buildA (lookI (buildA (fun _ => 0) a [] [] (toks src)).2) a [] [] (toks src)).1.length
  · rw [if_pos hl]; exact ⟨by simp, by simp, fun x hx => by cases hx⟩
  · rw [if_neg hl]
    refine ⟨by simp only; omega, by have := hb2.1; simp at this ⊢; omega, fun x hx => ?_⟩
    rcases hb2.2 x hx with h' | ⟨h3, h4, h5⟩
    · cases h'
    · simp at h5
      exact ⟨h3, by omega, by omega⟩
end Go.Proofs.YtimegcnpembhkaaDoor
