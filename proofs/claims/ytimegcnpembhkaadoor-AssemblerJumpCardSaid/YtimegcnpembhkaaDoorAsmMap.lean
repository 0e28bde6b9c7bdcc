/- Maps of strings that a call has made: to bools, to integers. -/
import Derived.Test.YtimegcnpembhkaaDoorAsmLib
import Derived.Maps.OwnOps
import Derived.Maps.OwnSet
namespace Go.Proofs.YtimegcnpembhkaaDoor
open Go.RowKit
open Go.Lib hiding intOf
open Go.Maps
set_option linter.unusedVariables false

theorem keyed : Keyed Tryd.prog 9 := string_keyed Tryd.underlying9
theorem zeroB (w : World) : (zeroValue 4).run Tryd.prog w = .ok (.bool false) w := by kernel_rfl
theorem zeroI (w : World) : (zeroValue 3).run Tryd.prog w = .ok (.int .i64 0) w := by kernel_rfl
theorem key_of (s : ByteArray) (hs : s.size ≤ maxLen) : keyOf Tryd.prog 9 (.string s) = some (.string s.data.toList) := WideMaps.keyOf_string_mk Tryd.underlying9 hs

/-- block b is a map of at most n strings that holds f -/
def BMap (w : World) (b n : Nat) (f : Bytes → Bool) : Prop :=
  ∃ D : DataW Unit, w.ownsMap Tryd.prog 9 (plainElem Tryd.prog 4) b n D ∧ IsMap D ∧ ∀ k : Bytes, D.atKey (.string k) (.lit (.bool false)) = .lit (.bool (f k))
def IMap (w : World) (b n : Nat) (f : Bytes → Int) : Prop :=
  ∃ D : DataW Unit, w.ownsMap Tryd.prog 9 (plainElem Tryd.prog 3) b n D ∧ IsMap D ∧ ∀ k : Bytes, D.atKey (.string k) (.lit (.int .i64 0)) = .lit (.int .i64 (f k))

/-- one entry more -/
def setB (f : Bytes → Bool) (m : Bytes) (c : Bool) : Bytes → Bool := fun k => if k = m then c else f k
def setI (f : Bytes → Int) (m : Bytes) (c : Int) : Bytes → Int := fun k => if k = m then c else f k
theorem BMap.fresh (w : World) : BMap (w.alloc (.map #[] 0)) w.heap.size 0 (fun _ => false) := ⟨.map [], World.ownsMap_made _ _ _ _, ⟨[], rfl⟩, fun k => rfl⟩
theorem IMap.fresh (w : World) : IMap (w.alloc (.map #[] 0)) w.heap.size 0 (fun _ => 0) := ⟨.map [], World.ownsMap_made _ _ _ _, ⟨[], rfl⟩, fun k => rfl⟩
theorem BMap.lt {w : World} {b n : Nat} {f : Bytes → Bool} (h : BMap w b n f) : b < w.heap.size := let ⟨_, h1, _⟩ := h; h1.lt
theorem IMap.lt {w : World} {b n : Nat} {f : Bytes → Int} (h : IMap w b n f) : b < w.heap.size := let ⟨_, h1, _⟩ := h; h1.lt
theorem BMap.grown {w w' : World} {b n : Nat} {f : Bytes → Bool} {row : Option Nat} (h : BMap w b n f) (hg : w.grownBy w' row) (hr : some b ≠ row) : BMap w' b n f :=
  let ⟨D, h1, h2, h3⟩ := h; ⟨D, h1.kept hg hr, h2, h3⟩
theorem IMap.grown {w w' : World} {b n : Nat} {f : Bytes → Int} {row : Option Nat} (h : IMap w b n f) (hg : w.grownBy w' row) (hr : some b ≠ row) : IMap w' b n f :=
  let ⟨D, h1, h2, h3⟩ := h; ⟨D, h1.kept hg hr, h2, h3⟩
theorem ext_grown {w w' : World} (hx : Ext w w') : w.grownBy w' none := ⟨hx.os, hx.tape, hx.output, hx.size, fun i hi _ => hx.block i hi⟩
theorem BMap.ext {w w' : World} {b n : Nat} {f : Bytes → Bool} (h : BMap w b n f) (hx : Ext w w') : BMap w' b n f := h.grown (ext_grown hx) (by simp)
theorem IMap.ext {w w' : World} {b n : Nat} {f : Bytes → Int} (h : IMap w b n f) (hx : Ext w w') : IMap w' b n f := h.grown (ext_grown hx) (by simp)

/-- an owned row is no map -/
theorem row_no_map {w : World} {base : Nat} {e : TypeId} {size n : Nat} {v : Value} {xs : List Value} (hown : w.ownsRow base e size v n xs) {b : Nat} {es : Array MapEntry} {clock : Nat} (hb : w.heap[b]? = some (.map es clock)) : some b ≠ v.ownBlock := by
  rcases hown.2 with ⟨rfl, _⟩ | ⟨g, cap, cur, rfl, _, hg, _⟩
  · simp [Value.ownBlock]
  · intro h
    simp only [Value.ownBlock, Option.some.injEq] at h
    subst h
    rw [hg] at hb
    cases hb
theorem IMap.block {w : World} {b n : Nat} {f : Bytes → Int} (h : IMap w b n f) : ∃ es clock, w.heap[b]? = some (.map es clock) := let ⟨_, ⟨es, clock, h1, _⟩, _⟩ := h; ⟨es, clock, h1⟩
theorem BMap.block {w : World} {b n : Nat} {f : Bytes → Bool} (h : BMap w b n f) : ∃ es clock, w.heap[b]? = some (.map es clock) := let ⟨_, ⟨es, clock, h1, _⟩, _⟩ := h; ⟨es, clock, h1⟩
/-- a map is no owned row, no block of cells -/
theorem own_grown {w w' : World} {base : Nat} {e : TypeId} {size n : Nat} {v : Value} {xs : List Value} (hown : w.ownsRow base e size v n xs) {b : Nat} (hb : ∃ es clock, w.heap[b]? = some (.map es clock)) (hg : w.grownBy w' (some b)) : w'.ownsRow base e size v n xs := by
  obtain ⟨es, clock, hb⟩ := hb
  have := row_no_map hown hb
  exact hown.kept hg (Or.inr fun h => this h.symm)
theorem Blk.grownMap {w w' : World} {c : Nat} {T : TypeId} {xs : List Value} (h : Blk w c T xs) {b : Nat} (hb : ∃ es clock, w.heap[b]? = some (.map es clock)) (hg : w.grownBy w' (some b)) : Blk w' c T xs := by
  obtain ⟨es, clock, hb⟩ := hb
  unfold Blk
  rw [hg.block c h.lt ?_]
  · exact h
  · intro e
    simp only [Option.some.injEq] at e
    subst e
    unfold Blk at h
    rw [hb] at h
    cases h

theorem plainElem_bool_inv {P : Program} {e : TypeId} (he : P.underlying e = some .bool) {v : Value} {z : DataW Unit × List MemPlace} (h : plainElem P e v = some z) : ∃ x, v = .bool x ∧ z = (.lit (.bool x), []) := by
  unfold plainElem at h
  rw [he] at h
  cases v <;> simp at h
  exact ⟨_, rfl, h.symm⟩
theorem BMap.look {w : World} {b n : Nat} {f : Bytes → Bool} (h : BMap w b n f) (s : ByteArray) (hs : s.size ≤ maxLen) :
    (Instr.lookup 98 (.map (some b)) (.string s) false).run Tryd.prog w = .ok (.bool (f s.data.toList)) w := by
  obtain ⟨D, h1, _, h3⟩ := h
  obtain ⟨v, ps, hrun, hv⟩ := h1.lookup keyed Tryd.underlying98 (zeroB w) (plainElem_bool Tryd.underlying4 false) (key_of s hs)
  rw [h3] at hv
  obtain ⟨x, rfl, hx⟩ := plainElem_bool_inv Tryd.underlying4 hv
  simp at hx
  rw [hrun, hx.1]
theorem IMap.look {w : World} {b n : Nat} {f : Bytes → Int} (h : IMap w b n f) (s : ByteArray) (hs : s.size ≤ maxLen) :
    (Instr.lookup 40 (.map (some b)) (.string s) false).run Tryd.prog w = .ok (.int .i64 (f s.data.toList)) w := by
  obtain ⟨D, h1, _, h3⟩ := h
  obtain ⟨c, hrun, hat, _⟩ := h1.lookup_int keyed Tryd.underlying40 Tryd.underlying3 (zeroI w) (key_of s hs)
  rw [h3] at hat
  simp at hat
  rw [hrun, hat]
theorem look_none (w : World) (s : ByteArray) (hs : s.size ≤ maxLen) :
    (Instr.lookup 40 (.map none) (.string s) false).run Tryd.prog w = .ok (.int .i64 0) w := by
  have := Maps.look_nil (w := w) false keyed Tryd.underlying40 (zeroI w) (key_of s hs)
  simpa using this

section
variable {w : World} {ops : Array Oper} {rest : List Oper} {o : Oper} {a : Act} {Q : Exit → Act → World → Prop}
theorem wpList_bset (hg : o.guard = none) (m x v : Operand) (hop : o.op = Op.mapUpdate 98 m x v) (b n : Nat) (f : Bytes → Bool) (hm : a.eval m = .map (some b)) (h : BMap w b n f) (hn : n < maxLen)
    (s : ByteArray) (hs : s.size ≤ maxLen) (c : Bool) (hx : a.eval x = .string s) (hv : a.eval v = .bool c)
    (hK : ∀ w', BMap w' b (n + 1) (setB f s.data.toList c) → w.grownBy w' (some b) → wpList Tryd.prog ops Q rest (a.put o.dst undef) w') : wpList Tryd.prog ops Q (o :: rest) a w := by
  obtain ⟨D, h1, h2, h3⟩ := h
  refine wpList_mapUpdate_own w hg m x v _ hop 9 4 keyed Tryd.underlying98 _ b n D hm h1 hn (.string s) (.bool c) _ hx hv (key_of s hs) _ [] (plainElem_bool Tryd.underlying4 c) fun w' hw hgr => hK w' ⟨_, hw, h2.put _ _, fun k => ?_⟩ hgr
  show _ = DataW.lit (.bool (if k = s.data.toList then c else f k))
  by_cases hk : k = s.data.toList
  · rw [if_pos hk, hk]
    exact atKey_put_same h2 (show WideAt.IsKeyLit (Lit.string s.data.toList) from trivial) _ _
  · rw [if_neg hk, atKey_put_other (by simpa using hk), h3]
theorem wpList_iset (hg : o.guard = none) (m x v : Operand) (hop : o.op = Op.mapUpdate 40 m x v) (b n : Nat) (f : Bytes → Int) (hm : a.eval m = .map (some b)) (h : IMap w b n f) (hn : n < maxLen)
    (s : ByteArray) (hs : s.size ≤ maxLen) (c : Int) (hc : (Lit.int .i64 c).wf = true) (hx : a.eval x = .string s) (hv : a.eval v = .int .i64 c)
    (hK : ∀ w', IMap w' b (n + 1) (setI f s.data.toList c) → w.grownBy w' (some b) → wpList Tryd.prog ops Q rest (a.put o.dst undef) w') : wpList Tryd.prog ops Q (o :: rest) a w := by
  obtain ⟨D, h1, h2, h3⟩ := h
  refine wpList_mapUpdate_own w hg m x v _ hop 9 3 keyed Tryd.underlying40 _ b n D hm h1 hn (.string s) (.int .i64 c) _ hx hv (key_of s hs) _ [] (plainElem_int Tryd.underlying3 hc) fun w' hw hgr => hK w' ⟨_, hw, h2.put _ _, fun k => ?_⟩ hgr
  show _ = DataW.lit (.int .i64 (if k = s.data.toList then c else f k))
  by_cases hk : k = s.data.toList
  · rw [if_pos hk, hk]
    exact atKey_put_same h2 (show WideAt.IsKeyLit (Lit.string s.data.toList) from trivial) _ _
  · rw [if_neg hk, atKey_put_other (by simpa using hk), h3]
end
end Go.Proofs.YtimegcnpembhkaaDoor
