/- A builder of one's own is kept where no cells turn; the contract of runsOf. (Layer 52) -/
import Derived.Test.YthanegmaipckdaaDoorBitRuns
import Derived.Test.YthanegmaipckdaaDoorBitCheck
namespace Go.Proofs.YthanegmaipckdaaDoor
open Go.RowKit Go.Shelf
open Go.Lib hiding intOf
set_option linter.unusedVariables false

theorem Bld.keep {B b : Nat} {l : List UInt8} {W W' : World} {row : Option Nat} (h : Bld B b l W) (hg : W.grownBy W' row) (hr : ∀ r, row = some r → ∃ o : Obj, W.heap[r]? = some o ∧ o.isCells = false) : Bld B b l W' := by
  have other : ∀ i cs T fz, W.heap[i]? = some (.cells cs T fz) → some i ≠ row := by
    intro i cs T fz hi e
    obtain ⟨o, ho, hc⟩ := hr i e.symm
    rw [hi] at ho
    cases ho
    cases hc
  have key : ∀ p, Lib.BuilderAt 45 5 B b p (Lib.byteCells l) W → Lib.BuilderAt 45 5 B b p (Lib.byteCells l) W' := by
    rintro p ⟨hB, u, hb, hown', hne⟩
    have hlt : b < W.heap.size := (Array.getElem?_eq_some_iff.1 hb).1
    refine ⟨hB, u, ?_, ?_, hne⟩
    · rw [hg.block b hlt (other b _ _ _ hb)]
      exact hb
    · refine hown'.kept hg ?_
      rcases hown'.2 with ⟨rfl, _⟩ | ⟨g, cap, cur, rfl, _, hg', _⟩
      · exact Or.inl rfl
      · exact Or.inr (fun e' => other g _ _ _ hg' (by rw [← e']; rfl))
  rcases h with h | h
  · exact Or.inl (key _ h)
  · exact Or.inr (key _ h)
/-- a store into another block, which is no row of bytes, keeps it -/
theorem Bld.setOther {B b : Nat} {l : List UInt8} {W : World} (h : Bld B b l W) {bx : Nat} {u : Value} {T : TypeId} (hb : bx ≠ b) (hx : Boxed W bx T u) (hT : T ≠ 5) (v : Value) : Bld B b l (W.setCell ⟨bx, 0, none⟩ v) := by
  have hg := grownBy_setCell' W bx v
  have key : ∀ p, Lib.BuilderAt 45 5 B b p (Lib.byteCells l) W → Lib.BuilderAt 45 5 B b p (Lib.byteCells l) (W.setCell ⟨bx, 0, none⟩ v) := by
    rintro p ⟨hB, u', hb', hown', hne⟩
    have hlt : b < W.heap.size := (Array.getElem?_eq_some_iff.1 hb').1
    refine ⟨hB, u', ?_, ?_, hne⟩
    · rw [hg.block b hlt (fun e => hb (by injection e with e; exact e.symm))]
      exact hb'
    · refine hown'.kept hg (Or.inr ?_)
      exact fun e => hx.not_row hT hown' e.symm
  rcases h with h | h
  · exact Or.inl (key _ h)
  · exact Or.inr (key _ h)
/-- what a builder's write leaves: boxes of other types, whatever is no cells -/
theorem BKeep.boxed {b : Nat} {W W' : World} (h : BKeep b W W') {bx : Nat} {u : Value} {T : TypeId} (hb : bx ≠ b) (hx : Boxed W bx T u) (hT : T ≠ 5) : W'.heap[bx]? = W.heap[bx]? := by
  have e : W.heap[bx]? = some (.cells #[u] T (0, 0)) := hx
  rw [h.block bx _ hb e (fun cs fz e' => by injection e' with _ e2 _; exact hT e2), e]
theorem BKeep.keeps {b : Nat} {W W' : World} (h : BKeep b W W') (B : Nat) (hb : ∃ cs T fz, W.heap[b]? = some (.cells cs T fz)) : KeepsFrom B W W' := by
  refine ⟨h.size, fun k o _ hk ho => h.block k o ?_ hk ?_⟩
  · intro e
    subst e
    obtain ⟨cs, T, fz, hc⟩ := hb
    rw [hc] at hk
    cases hk
    cases ho
  · intro cs fz e
    subst e
    cases ho
theorem Bld.cells {B b : Nat} {l : List UInt8} {w : World} (h : Bld B b l w) : ∃ cs T fz, w.heap[b]? = some (.cells cs T fz) := by
  rcases h with ⟨_, u, hb, _⟩ | ⟨_, u, hb, _⟩
  · exact ⟨_, _, _, hb⟩
  · exact ⟨_, _, _, hb⟩

theorem runsOf_any (s : ByteArray) (w : World) :
    Calls Tryd.prog 23 #[.string s] w fun e w' => e = .returned (.func (.func 38) #[] #[.pointer (some ⟨w.heap.size, 0, none⟩)]) ∧ w' = w.alloc (.cells #[.string s] 9) := by
  go_enter Tryd.func23, Tryd.ntmps23
  go_wp2_with fail
  go_ret
  exact ⟨rfl, rfl⟩
end Go.Proofs.YthanegmaipckdaaDoor
