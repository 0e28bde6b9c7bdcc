/- Words for memory: a slice value that reads as a list of values (one cell an element), as a list of holds (two cells an element); what is kept when the world grows. -/
import Derived.Test.YtimegcnpembhkaaDoorGrow
import Derived.Laws.AppendOwn
import Derived.OwnWalk
import Derived.Deep.Draws
namespace Go.Proofs.YtimegcnpembhkaaDoor
open Go.RowKit
set_option linter.unusedVariables false

theorem ret_int {k : IntKind} {a b : Int} (h : a = b) : Ending.returned (.int k a) = .returned (.int k b) := by rw [h]

theorem cell_lt {w : World} {a : Addr} {v : Value} (h : w.cell? a = some v) : a.block < w.heap.size := by
  rcases Nat.lt_or_ge a.block w.heap.size with h' | h'
  · exact h'
  · simp [World.cell?, Array.getElem?_eq_none h'] at h
theorem Ext.cell {w w' : World} (h : Ext w w') {a : Addr} {v : Value} (hc : w.cell? a = some v) : w'.cell? a = some v := by
  rw [Below.cell h (cell_lt hc)]; exact hc
theorem Ext.alloc {w w' : World} (h : Ext w w') (o : Obj) : Ext w (w'.alloc o) := Below.alloc h h.size o
theorem Ext.drew {w w' : World} (h : Ext w w') : Ext w w'.drew := Below.drew h
theorem Ext.drewN {w w' : World} (h : Ext w w') (n : Nat) : Ext w (w'.drewN n) := ⟨h.os, h.tape, h.output, h.size, h.block⟩
theorem Ext.set {w w' : World} (h : Ext w w') {p : Addr} (hp : w.heap.size ≤ p.block) (u : Value) : Ext w (w'.setCell p u) := Below.setCell h hp u
theorem Ext.grown {w w' w'' : World} {row : Option Nat} (h : Ext w w') (hg : w'.grownBy w'' row) (hr : ∀ k, row = some k → w.heap.size ≤ k) : Ext w w'' := Below.grown h hg h.size hr

/-- the slice value reads as the list xs, one cell an element -/
structure Lst (w : World) (A : Option Addr) (n cap : Nat) (xs : List Value) : Prop where
  len : n = xs.length
  room : n ≤ cap
  max : cap ≤ maxLen
  at_ : 0 < n → ∃ b off, A = some ⟨b, off, none⟩ ∧ ∀ i (h : i < xs.length), w.cell? ⟨b, off + i, none⟩ = some xs[i]

theorem Lst.ext {w w' : World} {A : Option Addr} {n cap : Nat} {xs : List Value} (h : Lst w A n cap xs) (hx : Ext w w') : Lst w' A n cap xs :=
  ⟨h.len, h.room, h.max, fun hn => let ⟨b, off, hA, hc⟩ := h.at_ hn; ⟨b, off, hA, fun i hi => hx.cell (hc i hi)⟩⟩
theorem Lst.nil (w : World) : Lst w none 0 0 [] := ⟨rfl, Nat.le_refl _, Nat.zero_le _, fun h => absurd h (Nat.lt_irrefl _)⟩

/-- a hold: its path, its date -/
abbrev Hold := ByteArray × Int
def holdCells (l : List Hold) : List Value := l.flatMap fun h => [.string h.1, .int .i64 h.2]

structure HLst (w : World) (A : Option Addr) (n cap : Nat) (l : List Hold) : Prop where
  len : n = l.length
  room : n ≤ cap
  max : cap ≤ maxLen
  at_ : 0 < n → ∃ b off, A = some ⟨b, off, none⟩ ∧ ∀ i (h : i < l.length), w.cell? ⟨b, off + i * 2, none⟩ = some (.string l[i].1) ∧ w.cell? ⟨b, off + i * 2 + 1, none⟩ = some (.int .i64 l[i].2)

theorem HLst.ext {w w' : World} {A : Option Addr} {n cap : Nat} {l : List Hold} (h : HLst w A n cap l) (hx : Ext w w') : HLst w' A n cap l :=
  ⟨h.len, h.room, h.max, fun hn => let ⟨b, off, hA, hc⟩ := h.at_ hn; ⟨b, off, hA, fun i hi => ⟨hx.cell (hc i hi).1, hx.cell (hc i hi).2⟩⟩⟩
theorem HLst.nil (w : World) : HLst w none 0 0 [] := ⟨rfl, Nat.le_refl _, Nat.zero_le _, fun h => absurd h (Nat.lt_irrefl _)⟩

theorem holdCells_length (l : List Hold) : (holdCells l).length = l.length * 2 := by
  induction l with
  | nil => rfl
  | cons h l ih => simp only [holdCells, List.flatMap_cons, List.length_append, List.length_cons, List.length_nil] at ih ⊢; omega
theorem holdCells_get (l : List Hold) : ∀ (i : Nat) (h : i < l.length), (holdCells l)[i * 2]? = some (.string l[i].1) ∧ (holdCells l)[i * 2 + 1]? = some (.int .i64 l[i].2) := by
  induction l with
  | nil => intro i h; simp at h
  | cons x l ih =>
    intro i h
    match i with
    | 0 => exact ⟨rfl, rfl⟩
    | i + 1 =>
      have := ih i (by simpa using h)
      have e : ∀ j, (holdCells (x :: l))[j + 2]? = (holdCells l)[j]? := fun j => rfl
      rw [show (i + 1) * 2 = i * 2 + 2 by omega, show i * 2 + 2 + 1 = (i * 2 + 1) + 2 by omega, e, e]
      exact this
theorem holdCells_snoc (l : List Hold) (h : Hold) : holdCells (l ++ [h]) = holdCells l ++ [.string h.1, .int .i64 h.2] := by simp [holdCells]

theorem own_ext {w w' : World} {base : Nat} {e : TypeId} {size n : Nat} {v : Value} {xs : List Value} (h : w.ownsRow base e size v n xs) (hx : Ext w w') : w'.ownsRow base e size v n xs :=
  h.kept (row := none) ⟨hx.os, hx.tape, hx.output, hx.size, fun i hi _ => hx.block i hi⟩ (by
    cases hb : v.ownBlock with
    | none => exact Or.inl rfl
    | some k => exact Or.inr (by simp))

/-- holds that are owned read as holds -/
theorem HLst.of_own {w : World} {base : Nat} {e : TypeId} {v : Value} {l : List Hold} (h : w.ownsRow base e 2 v l.length (holdCells l)) :
    ∃ A cap, v = .slice A l.length cap ∧ HLst w A l.length cap l := by
  have hc := fun g (hg : v.ownBlock = some g) => h.cells hg
  rcases h.2 with ⟨rfl, hn⟩ | ⟨g, cap, cur, rfl, hg, hh, hnc, hm, _⟩
  · obtain rfl : l = [] := List.eq_nil_of_length_eq_zero hn
    exact ⟨none, 0, rfl, HLst.nil w⟩
  · refine ⟨some ⟨g, 0, none⟩, cap, rfl, rfl, hnc, hm, fun hn => ⟨g, 0, rfl, fun i hi => ?_⟩⟩
    have ha : ∀ j, (⟨g, 0, none⟩ : Addr).add j = ⟨g, 0 + j, none⟩ := by
      intro j
      unfold Addr.add
      split
      · rename_i h0; rw [h0]
      · rfl
    have h1 := hc g rfl (i * 2) _ (holdCells_get l i hi).1
    have h2 := hc g rfl (i * 2 + 1) _ (holdCells_get l i hi).2
    rw [ha] at h1 h2
    exact ⟨h1, h2⟩

/-- one-cell values that are owned read as a list -/
theorem Lst.of_own {w : World} {base : Nat} {e : TypeId} {v : Value} {n : Nat} {xs : List Value} (h : w.ownsRow base e 1 v n xs) :
    ∃ A cap, v = .slice A n cap ∧ Lst w A n cap xs := by
  have hl : n = xs.length := by have := h.1; omega
  have hc := fun g (hg : v.ownBlock = some g) => h.cells hg
  rcases h.2 with ⟨rfl, hn⟩ | ⟨g, cap, cur, rfl, hg, hh, hnc, hm, _⟩
  · have : xs = [] := List.eq_nil_of_length_eq_zero (by omega)
    subst this
    subst hn
    exact ⟨none, 0, rfl, Lst.nil w⟩
  · refine ⟨some ⟨g, 0, none⟩, cap, rfl, hl, hnc, hm, fun hn => ⟨g, 0, rfl, fun i hi => ?_⟩⟩
    have ha : ∀ j, (⟨g, 0, none⟩ : Addr).add j = ⟨g, 0 + j, none⟩ := by
      intro j
      unfold Addr.add
      split
      · rename_i h0; rw [h0]
      · rfl
    have h1 := hc g rfl i _ (List.getElem?_eq_getElem hi)
    rw [ha] at h1
    exact h1

/-- a literal block that was just made reads as a list -/
theorem Lst.block {w : World} {b : Nat} {T : TypeId} {fz : Nat × Nat} {xs : List Value} {n : Nat} (h : w.heap[b]? = some (.cells xs.toArray T fz)) (hn : n = xs.length) (hm : n ≤ maxLen) : Lst w (some ⟨b, 0, none⟩) n n xs :=
  ⟨hn, Nat.le_refl _, hm, fun _ => ⟨b, 0, rfl, fun i hi => by simp [World.cell?, h, hi]⟩⟩

end Go.Proofs.YtimegcnpembhkaaDoor
