/- Documents in memory: slices of strings, rows of cells, blocks; the blocks so far, the last of them open. (Layer 49) -/
import Derived.Test.YtapjhnlnfliljaaDoorAsmLib
import Derived.Test.YtapjhnlnfliljaaDoorDocSpec
import Derived.OwnWalk
import Derived.Maps.AppendAt
namespace Go.Proofs.YtapjhnlnfliljaaDoor
open Go.RowKit
open Go.Lib hiding intOf
set_option linter.unusedVariables false

/-- what is kept where one block alone may change -/
structure Keep (b : Nat) (w w' : World) : Prop where
  size : w.heap.size ≤ w'.heap.size
  block : ∀ i o, i ≠ b → w.heap[i]? = some o → w'.heap[i]? = some o
theorem heap_lt {w : World} {i : Nat} {o : Obj} (ho : w.heap[i]? = some o) : i < w.heap.size := by
  rcases Nat.lt_or_ge i w.heap.size with h | h
  · exact h
  · simp [Array.getElem?_eq_none h] at ho
theorem Keep.set {b : Nat} {w : World} (j : Nat) (u : Value) : Keep b w (w.setCell ⟨b, j, none⟩ u) :=
  ⟨by simp [World.setCell], fun i o hi ho => by rw [Below.heap_setCell _ _ _ _ (fun e => hi (by simp at e; exact e))]; exact ho⟩
theorem Keep.ext {b : Nat} {w w' : World} (h : Ext w w') : Keep b w w' := ⟨h.size, fun i o _ ho => by rw [h.block i (heap_lt ho)]; exact ho⟩
theorem Keep.trans {b : Nat} {u v w : World} (h : Keep b u v) (k : Keep b v w) : Keep b u w := ⟨Nat.le_trans h.size k.size, fun i o hi ho => k.block i o hi (h.block i o hi ho)⟩
theorem Keep.grown {b : Nat} {w w' : World} {row : Option Nat} (hg : w.grownBy w' row) (hr : row = some b ∨ row = none) : Keep b w w' :=
  ⟨hg.size, fun i o hi ho => by rw [hg.block i (heap_lt ho) (by rcases hr with h | h <;> rw [h] <;> simp; exact hi)]; exact ho⟩
theorem own_keep {b : Nat} {w w' : World} {base : Nat} {e : TypeId} {size n : Nat} {v : Value} {xs : List Value} (h : w.ownsRow base e size v n xs) (hk : Keep b w w') (hv : v.ownBlock ≠ some b) : w'.ownsRow base e size v n xs := by
  refine ⟨h.1, ?_⟩
  rcases h.2 with h | ⟨g, cap, cur, rfl, hB, hg, h1, h2, h3, h4⟩
  · exact .inl h
  · exact .inr ⟨g, cap, cur, rfl, hB, hk.block g _ (fun e => hv (by rw [e]; rfl)) hg, h1, h2, h3, h4⟩
theorem own_type {w : World} {base : Nat} {e : TypeId} {size n : Nat} {v : Value} {xs : List Value} (h : w.ownsRow base e size v n xs) {b : Nat} (hb : ∀ cs fz, w.heap[b]? ≠ some (.cells cs e fz)) : v.ownBlock ≠ some b := by
  rcases h.2 with ⟨rfl, _⟩ | ⟨g, cap, cur, rfl, hB, hg, h1, h2, h3, h4⟩
  · simp [Value.ownBlock]
  · intro e'
    simp only [Value.ownBlock, Option.some.injEq] at e'
    rw [e'] at hg
    exact hb _ _ hg
theorem own_at {w : World} {base : Nat} {e : TypeId} {size n : Nat} {v : Value} {xs : List Value} (h : w.ownsRow base e size v n xs) {g : Nat} (hv : v.ownBlock = some g) : base ≤ g ∧ ∃ cs, w.heap[g]? = some (.cells cs e (0, 0)) := by
  rcases h.2 with ⟨rfl, _⟩ | ⟨g', cap, cur, rfl, hB, hg, h1, h2, h3, h4⟩
  · cases hv
  · simp only [Value.ownBlock, Option.some.injEq] at hv
    subst hv
    exact ⟨hB, _, hg⟩
theorem own_base {w : World} {base base' : Nat} {e : TypeId} {size n : Nat} {v : Value} {xs : List Value} (h : w.ownsRow base e size v n xs) (hb : base' ≤ base) : w.ownsRow base' e size v n xs := by
  refine ⟨h.1, ?_⟩
  rcases h.2 with h | ⟨g, cap, cur, rfl, hB, hh⟩
  · exact .inl h
  · exact .inr ⟨g, cap, cur, rfl, by omega, hh⟩
theorem own_nil {w : World} {base size : Nat} {e : TypeId} : w.ownsRow base e size (.slice none 0 0) 0 [] := ⟨by simp, .inl ⟨rfl, rfl⟩⟩
/-- one value of an owned row is written -/
theorem own_put {w : World} {base : Nat} {e : TypeId} {size n : Nat} {v : Value} {xs : List Value} (h : w.ownsRow base e size v n xs) (hn : 0 < n) :
    ∃ g cap, v = .slice (some ⟨g, 0, none⟩) n cap ∧ n ≤ cap ∧ cap ≤ maxLen ∧ base ≤ g ∧ (∀ j x, xs[j]? = some x → w.cell? ⟨g, j, none⟩ = some x) ∧ (∀ j, w.frozen? ⟨g, j, none⟩ = false) ∧ (∃ cs, w.heap[g]? = some (.cells cs e (0, 0))) ∧
      ∀ j y, j < xs.length → (w.setCell ⟨g, j, none⟩ y).ownsRow base e size v n (xs.set j y) := by
  have hl := h.1
  rcases h.2 with ⟨_, h0⟩ | ⟨g, cap, cur, rfl, hB, hg, h1, h2, h3, h4⟩
  · omega
  · refine ⟨g, cap, rfl, h1, h2, hB, fun j x hx => ?_, fun j => Lib.frozen_of_heap hg j, ⟨_, hg⟩, fun j y hj => ?_⟩
    · have hj : j < xs.length := (List.getElem?_eq_some_iff.1 hx).1
      rw [← h4, List.getElem?_take_of_lt (by omega)] at hx
      simp [World.cell?, hg]
      simpa using hx
    · refine ⟨by simp [hl], .inr ⟨g, cap, cur.setIfInBounds j y, rfl, hB, ?_, h1, h2, by simp [h3], ?_⟩⟩
      · simp [World.setCell, Array.getElem?_modify, hg]
      · rw [Array.toList_setIfInBounds, List.take_set, h4]
theorem Lst.keepN {w w' : World} {A : Option Addr} {n c : Nat} {xs : List Value} {b : Nat} (h : Lst w A n c xs) (hA : ∀ p, A = some p → p.block ≠ b) (hk : Keep b w w') : Lst w' A n c xs :=
  ⟨h.len, h.room, h.max, fun hn => by
    obtain ⟨q, off, rfl, hc⟩ := h.at_ hn
    have hq : q ≠ b := hA _ rfl
    refine ⟨q, off, rfl, fun i hi => ?_⟩
    have := hc i hi
    have hlt := cell_lt this
    have e : w'.heap[q]? = w.heap[q]? := by
      have hs : w.heap[q]? = some w.heap[q] := Array.getElem?_eq_getElem hlt
      rw [hs]
      exact hk.block q _ hq hs
    unfold World.cell? at this ⊢
    rw [e]; exact this⟩

def strsV (l : List Bytes) : List Value := l.map fun x => Value.string (BA x)
theorem strsV_len (l : List Bytes) : (strsV l).length = l.length := by simp [strsV]
theorem strsV_append (a b : List Bytes) : strsV (a ++ b) = strsV a ++ strsV b := by simp [strsV]
theorem strsV_snoc (a : List Bytes) (x : Bytes) : strsV (a ++ [x]) = strsV a ++ [.string (BA x)] := by simp [strsV]
theorem strsV_get (l : List Bytes) (i : Nat) (x : Bytes) (h : l[i]? = some x) : (strsV l)[i]? = some (.string (BA x)) := by simp [strsV, h]

/-- the block of a slice lies below m and is of a type -/
def Sits (w : World) (m : Nat) (T : TypeId) (A : Option Addr) : Prop := (A = none → True) ∧ ∀ p, A = some p → p.block < m ∧ ∃ cs fz, w.heap[p.block]? = some (.cells cs T fz)
theorem Sits.ne {w : World} {m g : Nat} {T : TypeId} {A : Option Addr} (h : Sits w m T A) (hg : m ≤ g ∨ ∀ cs fz, w.heap[g]? ≠ some (.cells cs T fz)) : ∀ p, A = some p → p.block ≠ g := by
  intro p hp e
  obtain ⟨h1, cs, fz, h2⟩ := h.2 p hp
  rcases hg with hg | hg
  · omega
  · exact hg cs fz (e ▸ h2)
theorem Sits.keep {w w' : World} {m g : Nat} {T : TypeId} {A : Option Addr} (h : Sits w m T A) (hk : Keep g w w') (hg : m ≤ g ∨ ∀ cs fz, w.heap[g]? ≠ some (.cells cs T fz)) : Sits w' m T A :=
  ⟨fun _ => trivial, fun p hp => ⟨(h.2 p hp).1, let ⟨cs, fz, h2⟩ := (h.2 p hp).2; ⟨cs, fz, hk.block _ _ (h.ne hg p hp) h2⟩⟩⟩
theorem Sits.mono {w : World} {m m' : Nat} {T : TypeId} {A : Option Addr} (h : Sits w m T A) (hm : m ≤ m') : Sits w m' T A := ⟨fun _ => trivial, fun p hp => ⟨Nat.lt_of_lt_of_le (h.2 p hp).1 hm, (h.2 p hp).2⟩⟩
theorem Sits.top {w : World} {m : Nat} {T : TypeId} {A : Option Addr} (h : Sits w m T A) : Sits w w.heap.size T A := ⟨fun _ => trivial, fun p hp => ⟨let ⟨_, _, h2⟩ := (h.2 p hp).2; heap_lt h2, (h.2 p hp).2⟩⟩
theorem Sits.nil (w : World) (m : Nat) (T : TypeId) : Sits w m T none := ⟨fun _ => trivial, fun p hp => by cases hp⟩
/-- a slice of strings -/
def SL (w : World) (m : Nat) (v : Value) (l : List Bytes) : Prop := ∃ A c, v = .slice A l.length c ∧ (A = none → c = 0) ∧ Lst w A l.length c (strsV l) ∧ Sits w m 9 A
/-- a slice of slices of strings -/
def RL (w : World) (m : Nat) (v : Value) (rows : List (List Bytes)) : Prop :=
  ∃ A c vs, v = .slice A rows.length c ∧ (A = none → c = 0) ∧ Lst w A rows.length c vs ∧ (∀ (i : Nat) (r : List Bytes), rows[i]? = some r → ∃ u, vs[i]? = some u ∧ SL w m u r) ∧ Sits w m 30 A
theorem SL.keep {w w' : World} {m g : Nat} {v : Value} {l : List Bytes} (h : SL w m v l) (hk : Keep g w w') (hg : m ≤ g ∨ ∀ cs fz, w.heap[g]? ≠ some (.cells cs 9 fz)) : SL w' m v l := by
  obtain ⟨A, c, h1, h0, h2, h3⟩ := h
  exact ⟨A, c, h1, h0, h2.keepN (h3.ne hg) hk, h3.keep hk hg⟩
theorem SL.mono {w : World} {m m' : Nat} {v : Value} {l : List Bytes} (h : SL w m v l) (hm : m ≤ m') : SL w m' v l := by
  obtain ⟨A, c, h1, h0, h2, h3⟩ := h
  exact ⟨A, c, h1, h0, h2, h3.mono hm⟩
theorem SL.top {w : World} {m : Nat} {v : Value} {l : List Bytes} (h : SL w m v l) : SL w w.heap.size v l := by
  obtain ⟨A, c, h1, h0, h2, h3⟩ := h
  exact ⟨A, c, h1, h0, h2, h3.top⟩
theorem SL.ext {w w' : World} {m : Nat} {v : Value} {l : List Bytes} (h : SL w m v l) (hx : Ext w w') : SL w' m v l := by
  obtain ⟨A, c, h1, h0, h2, h3⟩ := h
  exact ⟨A, c, h1, h0, h2.ext hx, ⟨fun _ => trivial, fun p hp => ⟨(h3.2 p hp).1, let ⟨cs, fz, h4⟩ := (h3.2 p hp).2; ⟨cs, fz, by rw [hx.block _ (heap_lt h4)]; exact h4⟩⟩⟩⟩
theorem SL.nil (w : World) (m : Nat) : SL w m (.slice none 0 0) [] := ⟨none, 0, rfl, fun _ => rfl, Lst.nil w, Sits.nil w m _⟩
theorem SL.own {w : World} {base : Nat} {v : Value} {n : Nat} {l : List Bytes} (h : w.ownsRow base 9 1 v n (strsV l)) : SL w w.heap.size v l ∧ n = l.length := by
  have hn : n = l.length := by have := h.1; rw [strsV_len] at this; omega
  subst hn
  obtain ⟨A, c, rfl, hl⟩ := Lst.of_own h
  refine ⟨⟨A, c, rfl, fun e => ?_, hl, fun _ => trivial, fun p hp => ?_⟩, rfl⟩
  · subst e
    rcases h.2 with ⟨e, _⟩ | ⟨g, cap, cur, e, _⟩
    · injection e
    · injection e with e1; cases e1
  · subst hp
    rcases h.2 with ⟨e, _⟩ | ⟨g, cap, cur, e, _, hg, _⟩
    · injection e with e1; cases e1
    · injection e with e1
      cases e1
      exact ⟨heap_lt hg, _, _, hg⟩
theorem RL.keep {w w' : World} {m g : Nat} {v : Value} {rows : List (List Bytes)} (h : RL w m v rows) (hk : Keep g w w') (hg : m ≤ g ∨ ((∀ cs fz, w.heap[g]? ≠ some (.cells cs 9 fz)) ∧ ∀ cs fz, w.heap[g]? ≠ some (.cells cs 30 fz))) : RL w' m v rows := by
  obtain ⟨A, c, vs, h1, h0, h2, h3, h4⟩ := h
  have g1 : m ≤ g ∨ ∀ cs fz, w.heap[g]? ≠ some (.cells cs 9 fz) := hg.imp id (·.1)
  have g2 : m ≤ g ∨ ∀ cs fz, w.heap[g]? ≠ some (.cells cs 30 fz) := hg.imp id (·.2)
  exact ⟨A, c, vs, h1, h0, h2.keepN (h4.ne g2) hk, fun i r hr => let ⟨u, k1, k2⟩ := h3 i r hr; ⟨u, k1, k2.keep hk g1⟩, h4.keep hk g2⟩
theorem RL.mono {w : World} {m m' : Nat} {v : Value} {rows : List (List Bytes)} (h : RL w m v rows) (hm : m ≤ m') : RL w m' v rows := by
  obtain ⟨A, c, vs, h1, h0, h2, h3, h4⟩ := h
  exact ⟨A, c, vs, h1, h0, h2, fun i r hr => let ⟨u, k1, k2⟩ := h3 i r hr; ⟨u, k1, k2.mono hm⟩, h4.mono hm⟩
theorem RL.top {w : World} {m : Nat} {v : Value} {rows : List (List Bytes)} (h : RL w m v rows) : RL w w.heap.size v rows := by
  obtain ⟨A, c, vs, h1, h0, h2, h3, h4⟩ := h
  exact ⟨A, c, vs, h1, h0, h2, fun i r hr => let ⟨u, k1, k2⟩ := h3 i r hr; ⟨u, k1, k2.top⟩, h4.top⟩
theorem RL.ext {w w' : World} {m : Nat} {v : Value} {rows : List (List Bytes)} (h : RL w m v rows) (hx : Ext w w') : RL w' m v rows := by
  obtain ⟨A, c, vs, h1, h0, h2, h3, h4⟩ := h
  exact ⟨A, c, vs, h1, h0, h2.ext hx, fun i r hr => let ⟨u, k1, k2⟩ := h3 i r hr; ⟨u, k1, k2.ext hx⟩, ⟨fun _ => trivial, fun p hp => ⟨(h4.2 p hp).1, let ⟨cs, fz, h5⟩ := (h4.2 p hp).2; ⟨cs, fz, by rw [hx.block _ (heap_lt h5)]; exact h5⟩⟩⟩⟩
theorem RL.nil (w : World) (m : Nat) : RL w m (.slice none 0 0) [] := ⟨none, 0, [], rfl, fun _ => rfl, Lst.nil w, fun i r hr => by simp at hr, Sits.nil w m _⟩

/-- a block as it lies in memory: the block, the values of its words and rows -/
structure MB where
  b : DB
  vw : Value
  vr : Value
def MB.cells (x : MB) : List Value := [.int .i64 (x.b.kind : Int), x.vw, x.vr, .string (BA x.b.runs), .int .i64 (x.b.width : Int)]
def mcells (ms : List MB) : List Value := ms.flatMap MB.cells
theorem mcells_len (ms : List MB) : (mcells ms).length = ms.length * 5 := by
  induction ms with
  | nil => rfl
  | cons x ms ih => simp only [mcells, List.flatMap_cons, List.length_append, List.length_cons, MB.cells, List.length_nil] at ih ⊢; omega
theorem mcells_append (a b : List MB) : mcells (a ++ b) = mcells a ++ mcells b := by simp [mcells]
theorem mcells_get (ms : List MB) (i j : Nat) (x : MB) (v : Value) (hx : ms[i]? = some x) (hj : x.cells[j]? = some v) : (mcells ms)[i * 5 + j]? = some v := by
  have hj5 : j < 5 := (List.getElem?_eq_some_iff.1 hj).1
  induction ms generalizing i with
  | nil => simp at hx
  | cons y ms ih =>
    have e : mcells (y :: ms) = y.cells ++ mcells ms := by simp [mcells]
    rw [e]
    cases i with
    | zero => simp at hx; subst hx; rw [Nat.zero_mul, Nat.zero_add, List.getElem?_append_left (by exact hj5)]; exact hj
    | succ i =>
      rw [List.getElem?_append_right (by simp only [MB.cells, List.length_cons, List.length_nil]; omega)]
      have : (i + 1) * 5 + j - y.cells.length = i * 5 + j := by simp only [MB.cells, List.length_cons, List.length_nil]; omega
      rw [this]
      exact ih i (by simpa using hx)
def MOk (w : World) (m : Nat) (x : MB) : Prop := SL w m x.vw x.b.words ∧ RL w m x.vr x.b.rows
theorem MOk.keep {w w' : World} {m g : Nat} {x : MB} (h : MOk w m x) (hk : Keep g w w') (hg : m ≤ g ∨ ((∀ cs fz, w.heap[g]? ≠ some (.cells cs 9 fz)) ∧ ∀ cs fz, w.heap[g]? ≠ some (.cells cs 30 fz))) : MOk w' m x :=
  ⟨h.1.keep hk (hg.imp id (·.1)), h.2.keep hk hg⟩
theorem MOk.mono {w : World} {m m' : Nat} {x : MB} (h : MOk w m x) (hm : m ≤ m') : MOk w m' x := ⟨h.1.mono hm, h.2.mono hm⟩
theorem MOk.top {w : World} {m : Nat} {x : MB} (h : MOk w m x) : MOk w w.heap.size x := ⟨h.1.top, h.2.top⟩
theorem MOk.ext {w w' : World} {m : Nat} {x : MB} (h : MOk w m x) (hx : Ext w w') : MOk w' m x := ⟨h.1.ext hx, h.2.ext hx⟩
/-- a slice of blocks -/
def DL (w : World) (v : Value) (l : List DB) : Prop :=
  ∃ A c ms, v = .slice A l.length c ∧ ms.map MB.b = l ∧ l.length ≤ c ∧ c ≤ maxLen ∧ (A = none → c = 0) ∧ (0 < l.length → ∃ g off, A = some ⟨g, off, none⟩ ∧ ∀ j x, (mcells ms)[j]? = some x → w.cell? ⟨g, off + j, none⟩ = some x) ∧ ∀ x ∈ ms, MOk w w.heap.size x
theorem DL.ext {w w' : World} {v : Value} {l : List DB} (h : DL w v l) (hx : Ext w w') : DL w' v l := by
  obtain ⟨A, c, ms, h1, h2, h3, h4, h0, h5, h6⟩ := h
  exact ⟨A, c, ms, h1, h2, h3, h4, h0, fun hn => let ⟨g, off, k1, k2⟩ := h5 hn; ⟨g, off, k1, fun j x hj => hx.cell (k2 j x hj)⟩, fun x hm => ((h6 x hm).ext hx).mono hx.size⟩
theorem DL.nil (w : World) : DL w (.slice none 0 0) [] := ⟨none, 0, [], rfl, rfl, Nat.le_refl _, Nat.zero_le _, fun _ => rfl, fun h => absurd h (Nat.lt_irrefl _), fun x hx => by cases hx⟩
theorem DL.own {w : World} {base : Nat} {v : Value} {n : Nat} {ms : List MB} (h : w.ownsRow base 39 5 v n (mcells ms)) (hm : ∀ x ∈ ms, MOk w w.heap.size x) : DL w v (ms.map MB.b) ∧ n = ms.length := by
  have hn : n = ms.length := by have := h.1; rw [mcells_len] at this; omega
  subst hn
  refine ⟨?_, rfl⟩
  rcases h.2 with ⟨rfl, h0⟩ | ⟨g, cap, cur, rfl, hB, hg, h1, h2, h3, h4⟩
  · have : ms = [] := List.eq_nil_of_length_eq_zero h0
    subst this
    exact DL.nil w
  · refine ⟨some ⟨g, 0, none⟩, cap, ms, by simp, rfl, by simpa using h1, h2, fun e => (by cases e), fun hn => ⟨g, 0, rfl, fun j x hj => ?_⟩, hm⟩
    have hj' : j < (mcells ms).length := (List.getElem?_eq_some_iff.1 hj).1
    rw [mcells_len] at hj'
    rw [← h4, List.getElem?_take_of_lt (by omega)] at hj
    rw [Nat.zero_add]
    simp [World.cell?, hg]
    simpa using hj

/-- the last block while it is open -/
def LastOk (w : World) (m : Nat) (op : Nat) (x : MB) : Prop :=
  if op = 2 then w.ownsRow m 9 1 x.vw x.b.words.length (strsV x.b.words) ∧ RL w m x.vr x.b.rows
  else if op = 3 then SL w m x.vw x.b.words ∧ ∃ vs, w.ownsRow m 30 1 x.vr x.b.rows.length vs ∧ ∀ (i : Nat) (r : List Bytes), x.b.rows[i]? = some r → ∃ u, vs[i]? = some u ∧ SL w w.heap.size u r
  else MOk w m x
theorem LastOk.top {w : World} {m op : Nat} {x : MB} (h : LastOk w m op x) : MOk w w.heap.size x := by
  unfold LastOk at h
  split at h
  · exact ⟨(SL.own h.1).1, h.2.top⟩
  split at h
  · obtain ⟨h1, vs, h2, h3⟩ := h
    refine ⟨h1.top, ?_⟩
    obtain ⟨A, c, hv, hl⟩ := Lst.of_own h2
    refine ⟨A, c, vs, hv, fun e => ?_, hl, h3, fun _ => trivial, fun p hp => ?_⟩
    · subst e
      rcases h2.2 with ⟨e, _⟩ | ⟨g, cap, cur, e, _⟩
      · rw [hv] at e; injection e
      · rw [hv] at e; injection e with e1; cases e1
    · subst hp
      rcases h2.2 with ⟨e, _⟩ | ⟨g, cap, cur, e, _, hg, _⟩
      · rw [hv] at e; injection e with e1; cases e1
      · rw [hv] at e
        injection e with e1
        cases e1
        exact ⟨heap_lt hg, _, _, hg⟩
  · exact h.top
/-- the blocks so far -/
def OutI (w : World) (B m : Nat) (ov : Value) (out : List DB) (op : Nat) : Prop :=
  ∃ ms : List MB, ms.map MB.b = out ∧ w.ownsRow B 39 5 ov ms.length (mcells ms) ∧ (∀ x ∈ ms.dropLast, MOk w m x) ∧ ∀ x, ms.getLast? = some x → LastOk w m op x
theorem OutI.close {w : World} {B m : Nat} {ov : Value} {out : List DB} {op : Nat} (h : OutI w B m ov out op) : ∃ ms : List MB, ms.map MB.b = out ∧ w.ownsRow B 39 5 ov ms.length (mcells ms) ∧ ∀ x ∈ ms, MOk w w.heap.size x := by
  obtain ⟨ms, h1, h2, h3, h4⟩ := h
  refine ⟨ms, h1, h2, fun x hx => ?_⟩
  rcases List.eq_nil_or_concat ms with rfl | ⟨l, y, rfl⟩
  · cases hx
  · rw [List.concat_eq_append] at *
    rcases List.mem_append.1 hx with hx | hx
    · exact (h3 x (by rw [List.dropLast_concat]; exact hx)).top
    · rw [List.mem_singleton.1 hx]
      exact (h4 y (by simp)).top
theorem OutI.of_closed {w : World} {B m : Nat} {ov : Value} {ms : List MB} {op : Nat} (h2 : w.ownsRow B 39 5 ov ms.length (mcells ms)) (h : ∀ x ∈ ms, MOk w m x) (hop : ¬ (op = 2 ∨ op = 3)) : OutI w B m ov (ms.map MB.b) op := by
  refine ⟨ms, rfl, h2, fun x hx => h x (List.dropLast_subset _ hx), fun x hx => ?_⟩
  unfold LastOk
  rw [if_neg (fun e => hop (.inl e)), if_neg (fun e => hop (.inr e))]
  exact h x (List.mem_of_getLast? hx)
theorem OutI.dl {w : World} {B m : Nat} {ov : Value} {out : List DB} {op : Nat} (h : OutI w B m ov out op) : DL w ov out := by
  obtain ⟨ms, h1, h2, h3⟩ := h.close
  rw [← h1]
  exact (DL.own h2 h3).1
end Go.Proofs.YtapjhnlnfliljaaDoor
