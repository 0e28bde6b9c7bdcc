/- The machine in plain words, its parts in memory, push, pop, address, the map of instructions, what a step keeps. (Layer 17) -/
import Derived.Test.YtimegcnpembhkaaDoorAsmLib
import Derived.Test.YtimegcnpembhkaaDoorMem
import Derived.OwnWalk
import Derived.Maps.AppendAt
import Derived.WalkLawsBesides
import Derived.MapKept
import Derived.RangeFuncRecord
namespace Go.Proofs.YtimegcnpembhkaaDoor
open Go.RowKit
open Go.Lib hiding intOf
set_option linter.unusedVariables false

structure MS where
  mem : Nat → Nat
  pc : Nat
  data : List Nat
  calls : List Nat
  input : List Nat
  out : List UInt8
  digit : Bool
  res : Option (Nat × Int)
def popS (m : MS) : Option (Nat × MS) := match m.data.getLast? with | none => none | some v => some (v, { m with data := m.data.dropLast })
def pushS (v : Nat) (m : MS) : Option MS := if m.data.length < 256 then some { m with data := m.data ++ [v] } else none
def addrS (m : MS) : Option (Nat × MS) := match popS m with | none => none | some (a, m') => if a < 262144 then some (a, m') else none
def setM (f : Nat → Nat) (a v : Nat) : Nat → Nat := fun i => if i = a then v else f i
def digN (c : Nat) : Bool := decide (48 ≤ c) && decide (c ≤ 57)
def binS (c a b : Nat) : Option Nat :=
  if c = 43 then some ((a + b) % 4294967296) else if c = 45 then some ((a + 4294967296 - b) % 4294967296) else if c = 42 then some (a * b % 4294967296) else
  if c = 47 then (if b = 0 then none else some (a / b)) else if c = 37 then (if b = 0 then none else some (a % b)) else if c = 94 then some (a ^^^ b) else if c = 60 then some (if a < b then 1 else 0) else none
def isBin (c : Nat) : Bool := [43, 45, 42, 47, 37, 94, 60].contains c
/-- one instruction other than $ -/
def stepS (m : MS) (c : Nat) : Option MS :=
  if digN c = true then (if m.digit = true then some { m with data := m.data.dropLast ++ [(m.data.getLast?.getD 0 * 10 + (c - 48)) % 4294967296] } else pushS (c - 48) m)
  else if c = 32 ∨ c = 10 then some m
  else if isBin c = true then (popS m).bind fun (b, m1) => (popS m1).bind fun (a, m2) => (binS c a b).bind fun v => pushS v m2
  else if c = 64 then (addrS m).bind fun (a, m1) => pushS (m1.mem a) m1
  else if c = 33 then (addrS m).bind fun (a, m1) => (popS m1).bind fun (v, m2) => some { m2 with mem := setM m2.mem a v }
  else if c = 63 then (popS m).bind fun (t, m1) => (popS m1).bind fun (v, m2) => some (if v = 0 then { m2 with pc := t } else m2)
  else if c = 58 then (popS m).bind fun (t, m1) => if m1.calls.length < 64 then some { m1 with calls := m1.calls ++ [m1.pc], pc := t } else none
  else if c = 59 then (match m.calls.getLast? with | none => none | some p => some { m with pc := p, calls := m.calls.dropLast })
  else if c = 44 then (match m.input with | [] => pushS 4294967295 m | x :: l => pushS x { m with input := l })
  else if c = 46 then (popS m).bind fun (v, m1) => some { m1 with out := m1.out ++ [UInt8.ofNat v] }
  else none
/-- the outcome of at most k more steps, after n: the output, the error, the steps -/
def runS : Nat → Nat → MS → List UInt8 × Int × Nat
  | 0, n, m => (m.out, 13, n)
  | k + 1, n, m => if 262144 ≤ m.pc then (m.out, 12, n + 1) else if m.mem m.pc = 36 then (m.out, 0, n + 1) else
    match stepS { m with pc := m.pc + 1 } (m.mem m.pc) with
    | none => (m.out, 12, n + 1)
    | some m' => runS k (n + 1) { m' with digit := digN (m.mem m.pc) }
/-- the machine is as it can be -/
structure MS.Ok (m : MS) : Prop where
  mem : ∀ i, m.mem i < 4294967296
  pc : m.pc < 4294967296
  data : ∀ v ∈ m.data, v < 4294967296
  calls : ∀ v ∈ m.calls, v < 4294967296
  input : ∀ v ∈ m.input, v < 4294967296
  dlen : m.data.length ≤ 256
  clen : m.calls.length ≤ 64
  ilen : m.input.length ≤ 1000000
  dig : m.digit = true → m.data ≠ []

def u32V (l : List Nat) : List Value := l.map fun (n : Nat) => Value.int .u32 (n : Int)
theorem u32V_snoc (l : List Nat) (n : Nat) : u32V (l ++ [n]) = u32V l ++ [.int .u32 (n : Int)] := by simp [u32V]
theorem u32V_len (l : List Nat) : (u32V l).length = l.length := by simp [u32V]
theorem u32InfoM : (Tryd.prog.info? 47).map (fun i => (i.zero, i.size, i.bytes)) = some (some (.int .u32 0), 1, 4) := by kernel_rfl
/-- the memory's words in block bm -/
def MemAt (w : World) (bm : Nat) (f : Nat → Nat) : Prop := ∃ arr : Array Value, w.heap[bm]? = some (.cells arr 47 (0, 0)) ∧ arr.size = 262144 ∧ ∀ i, i < 262144 → arr[i]? = some (.int .u32 (f i : Int))
theorem MemAt.cell {w : World} {bm : Nat} {f : Nat → Nat} (h : MemAt w bm f) {i : Nat} (hi : i < 262144) : w.cell? ⟨bm, i, none⟩ = some (.int .u32 (f i : Int)) ∧ w.frozen? ⟨bm, i, none⟩ = false := by
  obtain ⟨arr, h1, h2, h3⟩ := h
  have := h3 i hi
  constructor
  · simp [World.cell?, h1, this]
  · exact Lib.frozen_of_heap h1 i
theorem MemAt.set {w : World} {bm : Nat} {f : Nat → Nat} (h : MemAt w bm f) (a v : Nat) : MemAt (w.setCell ⟨bm, a, none⟩ (.int .u32 (v : Int))) bm (setM f a v) := by
  obtain ⟨arr, h1, h2, h3⟩ := h
  refine ⟨arr.setIfInBounds a (.int .u32 (v : Int)), ?_, by simp [h2], fun i hi => ?_⟩
  · simp [World.setCell, Array.getElem?_modify, h1]
  · unfold setM
    by_cases e : i = a
    · subst e; rw [if_pos rfl]; simp [show i < arr.size by omega]
    · rw [if_neg e, Array.getElem?_setIfInBounds_ne (by omega)]; exact h3 i hi
theorem MemAt.keep {w w' : World} {bm : Nat} {f : Nat → Nat} (h : MemAt w bm f) (hk : w'.heap[bm]? = w.heap[bm]?) : MemAt w' bm f := let ⟨arr, h1, h2, h3⟩ := h; ⟨arr, hk.trans h1, h2, h3⟩
/-- what is kept where one block alone may change -/
structure Keep (b : Nat) (w w' : World) : Prop where
  size : w.heap.size ≤ w'.heap.size
  block : ∀ i o, i ≠ b → w.heap[i]? = some o → w'.heap[i]? = some o
theorem Keep.set {b : Nat} {w : World} (j : Nat) (u : Value) : Keep b w (w.setCell ⟨b, j, none⟩ u) :=
  ⟨by simp [World.setCell], fun i o hi ho => by rw [Below.heap_setCell _ _ _ _ (fun e => hi (by simp at e; exact e))]; exact ho⟩
theorem Keep.alloc {b : Nat} {w : World} (o : Obj) : Keep b w (w.alloc o) :=
  ⟨by simp, fun i o' hi ho => by
    have : i < w.heap.size := by
      rcases Nat.lt_or_ge i w.heap.size with h | h
      · exact h
      · simp [Array.getElem?_eq_none h] at ho
    rw [Below.heap_alloc _ _ _ this]; exact ho⟩
theorem Keep.drew {b : Nat} {w : World} : Keep b w w.drew := ⟨Nat.le_refl _, fun _ _ _ h => h⟩
theorem Keep.trans {b : Nat} {u v w : World} (h : Keep b u v) (k : Keep b v w) : Keep b u w := ⟨Nat.le_trans h.size k.size, fun i o hi ho => k.block i o hi (h.block i o hi ho)⟩
theorem Keep.ext {b : Nat} {w w' : World} (h : Ext w w') : Keep b w w' :=
  ⟨h.size, fun i o _ ho => by
    have : i < w.heap.size := by
      rcases Nat.lt_or_ge i w.heap.size with h | h
      · exact h
      · simp [Array.getElem?_eq_none h] at ho
    rw [h.block i this]; exact ho⟩
theorem Keep.grown {b : Nat} {w w' : World} {row : Option Nat} (hg : w.grownBy w' row) (hr : row = some b ∨ row = none) : Keep b w w' :=
  ⟨hg.size, fun i o hi ho => by
    have : i < w.heap.size := by
      rcases Nat.lt_or_ge i w.heap.size with h | h
      · exact h
      · simp [Array.getElem?_eq_none h] at ho
    rw [hg.block i this (by rcases hr with h | h <;> rw [h] <;> simp; exact hi)]; exact ho⟩
theorem own_keep {b : Nat} {w w' : World} {base : Nat} {e : TypeId} {size n : Nat} {v : Value} {xs : List Value} (h : w.ownsRow base e size v n xs) (hk : Keep b w w') (hv : v.ownBlock ≠ some b) : w'.ownsRow base e size v n xs := by
  refine ⟨h.1, ?_⟩
  rcases h.2 with h | ⟨g, cap, cur, rfl, hB, hg, h1, h2, h3, h4⟩
  · exact .inl h
  · exact .inr ⟨g, cap, cur, rfl, hB, hk.block g _ (fun e => hv (by rw [e]; rfl)) hg, h1, h2, h3, h4⟩
theorem own_type {w : World} {base : Nat} {e : TypeId} {size n : Nat} {v : Value} {xs : List Value} (h : w.ownsRow base e size v n xs) {b : Nat} (hb : ∀ cs fz, w.heap[b]? ≠ some (.cells cs e fz)) : v.ownBlock ≠ some b := by
  rcases h.2 with ⟨rfl, _⟩ | ⟨g, cap, cur, rfl, hB, hg, h1, h2, h3, h4⟩
  · simp [Value.ownBlock]
  · intro e'
    simp only [Value.ownBlock, Option.some.injEq] at e'
    rw [e'] at hg
    exact hb _ _ hg
/-- the last element taken away -/
theorem own_pop {w : World} {base : Nat} {e : TypeId} {v : Value} {n : Nat} {xs : List Value} {x : Value} (h : w.ownsRow base e 1 v (n + 1) (xs ++ [x])) (hn : xs.length = n) :
    ∃ g cap, v = .slice (some ⟨g, 0, none⟩) (n + 1) cap ∧ n + 1 ≤ cap ∧ cap ≤ maxLen ∧ w.cell? ⟨g, n, none⟩ = some x ∧ w.frozen? ⟨g, n, none⟩ = false ∧ w.ownsRow base e 1 (.slice (some ⟨g, 0, none⟩) n cap) n xs ∧
      ∀ y, (w.setCell ⟨g, n, none⟩ y).ownsRow base e 1 v (n + 1) (xs ++ [y]) := by
  rcases h.2 with ⟨_, h0⟩ | ⟨g, cap, cur, rfl, hB, hg, h1, h2, h3, h4⟩
  · omega
  · rw [Nat.mul_one] at h3 h4
    have hcn : cur[n]? = some x := by
      have : (cur.toList.take (n + 1))[n]? = some x := by rw [h4]; simp [hn]
      rw [List.getElem?_take_of_lt (by omega)] at this
      simpa using this
    have htk : cur.toList.take n = xs := by
      have := congrArg (List.take n) h4
      rw [List.take_take, Nat.min_eq_left (by omega)] at this
      rw [this]; simp [← hn]
    refine ⟨g, cap, rfl, h1, h2, by simp [World.cell?, hg, hcn], Lib.frozen_of_heap hg n, ⟨by simp [hn], .inr ⟨g, cap, cur, rfl, hB, hg, by omega, h2, by rw [h3, Nat.mul_one], by rw [Nat.mul_one]; exact htk⟩⟩, fun y => ?_⟩
    refine ⟨by simp [hn], .inr ⟨g, cap, cur.setIfInBounds n y, rfl, hB, ?_, h1, h2, by simp [h3], ?_⟩⟩
    · simp [World.setCell, Array.getElem?_modify, hg]
    · rw [Nat.mul_one, List.take_add_one, Array.toList_setIfInBounds, List.take_set_of_le (Nat.le_refl _), htk]
      congr 1
      rw [List.getElem?_set_self (by simp; omega)]
      rfl
theorem Lst.keep {w w' : World} {A : Option Addr} {n c : Nat} {xs : List Value} {b B : Nat} (h : Lst w A n c xs) (hA : ∀ p, A = some p → p.block < B) (hB : B ≤ b) (hk : Keep b w w') : Lst w' A n c xs :=
  ⟨h.len, h.room, h.max, fun hn => by
    obtain ⟨q, off, rfl, hc⟩ := h.at_ hn
    have hq : q < B := hA _ rfl
    refine ⟨q, off, rfl, fun i hi => ?_⟩
    have := hc i hi
    have hlt := cell_lt this
    have e : w'.heap[q]? = w.heap[q]? := by
      have hs : w.heap[q]? = some w.heap[q] := Array.getElem?_eq_getElem hlt
      rw [hs]
      exact hk.block q _ (by omega) hs
    unfold World.cell? at this ⊢
    rw [e]; exact this⟩
/-- the caller's result cell is as it was -/
def ResAt (w : World) (r : Option (Nat × Int)) : Prop := ∀ k x, r = some (k, x) → w.heap[k]? = some (.cells #[.int .i64 x] 24 (0, 0))
theorem ResAt.keep {w w' : World} {g : Nat} {r : Option (Nat × Int)} (h : ResAt w r) (hk : Keep g w w') (hT : ∀ cs fz, w.heap[g]? ≠ some (.cells cs 24 fz)) : ResAt w' r :=
  fun k x e => hk.block k _ (fun e2 => hT _ _ (e2 ▸ h k x e)) (h k x e)
/-- the machine's parts: its memory, its stacks, its input, its output -/
structure Parts (w : World) (B bm : Nat) (M : MS) (dv cv iv ov : Value) : Prop where
  hbm : B ≤ bm
  mem : MemAt w bm M.mem
  data : w.ownsRow B 47 1 dv M.data.length (u32V M.data)
  calls : w.ownsRow B 47 1 cv M.calls.length (u32V M.calls)
  out : w.ownsRow B 5 1 ov M.out.length (Lib.byteCells M.out)
  inp : ∃ A n c, iv = .slice A n c ∧ Lst w A n c (u32V M.input) ∧ ∀ p, A = some p → p.block < B
  dm : dv.ownBlock ≠ some bm
  cm : cv.ownBlock ≠ some bm
  dc : ∀ g, dv.ownBlock = some g → cv.ownBlock ≠ some g
  res : ResAt w M.res
theorem Parts.keep {w w' : World} {B bm b : Nat} {M : MS} {dv cv iv ov : Value} (h : Parts w B bm M dv cv iv ov) (hB : B ≤ b) (h4 : ∀ cs fz, w.heap[b]? ≠ some (.cells cs 47 fz)) (h8 : ∀ cs fz, w.heap[b]? ≠ some (.cells cs 5 fz)) (h9 : ∀ cs fz, w.heap[b]? ≠ some (.cells cs 24 fz)) (hk : Keep b w w') : Parts w' B bm M dv cv iv ov := by
  obtain ⟨arr, m1, m2, m3⟩ := h.mem
  refine ⟨h.hbm, ⟨arr, hk.block bm _ (fun e => h4 _ _ (e ▸ m1)) m1, m2, m3⟩, own_keep h.data hk (own_type h.data h4), own_keep h.calls hk (own_type h.calls h4), own_keep h.out hk (own_type h.out h8), ?_, h.dm, h.cm, h.dc, h.res.keep hk h9⟩
  obtain ⟨A, n, c, rfl, hl, hA⟩ := h.inp
  exact ⟨A, n, c, rfl, hl.keep hA hB hk, hA⟩
theorem own_lt {w : World} {base : Nat} {e : TypeId} {size n : Nat} {v : Value} {xs : List Value} (h : w.ownsRow base e size v n xs) {g : Nat} (hg : v.ownBlock = some g) : base ≤ g ∧ g < w.heap.size := h.lt g hg
/-- where a row grows: its block, and all else as it was -/
theorem row_app {w w' : World} {B : Nat} {e : TypeId} {dv : Value} {n : Nat} {xs : List Value} (hd : w.ownsRow B e 1 dv n xs) (o : Obj) (hgr : (w.alloc o).grownBy w' dv.ownBlock) (hBw : B ≤ w.heap.size) :
    ∃ g, Keep g w w' ∧ B ≤ g ∧ (dv.ownBlock = some g ∨ w.heap.size ≤ g) ∧ (∀ cs T fz, w.heap[g]? = some (.cells cs T fz) → T = e) := by
  cases hv : dv.ownBlock with
  | none =>
    rw [hv] at hgr
    exact ⟨w.heap.size, (Keep.alloc o).trans (Keep.grown hgr (.inr rfl)), hBw, .inr (Nat.le_refl _), fun cs T fz h => by simp at h⟩
  | some g =>
    rw [hv] at hgr
    refine ⟨g, (Keep.alloc o).trans (Keep.grown hgr (.inl rfl)), (own_lt hd hv).1, .inl rfl, fun cs T fz h => ?_⟩
    rcases hd.2 with ⟨rfl, _⟩ | ⟨g', cap, cur, rfl, _, hg, _⟩
    · cases hv
    · simp only [Value.ownBlock, Option.some.injEq] at hv
      rw [hv, h] at hg
      simp only [Option.some.injEq, Obj.cells.injEq] at hg
      exact hg.2.1
theorem mem_lt {w : World} {bm : Nat} {f : Nat → Nat} (h : MemAt w bm f) : bm < w.heap.size := by
  obtain ⟨arr, h1, -⟩ := h
  rcases Nat.lt_or_ge bm w.heap.size with h | h
  · exact h
  · simp [Array.getElem?_eq_none h] at h1
theorem MemAt.keepB {w w' : World} {bm g : Nat} {f : Nat → Nat} (h : MemAt w bm f) (hk : Keep g w w') (hne : bm ≠ g) : MemAt w' bm f := by
  obtain ⟨arr, h1, h2, h3⟩ := h
  exact ⟨arr, hk.block bm _ hne h1, h2, h3⟩
theorem Parts.data_app {w w' : World} {B bm : Nat} {M : MS} {dv dv' cv iv ov : Value} {v : Nat} (h : Parts w B bm M dv cv iv ov) (o : Obj) (hgr : (w.alloc o).grownBy w' dv.ownBlock) (hBw : B ≤ w.heap.size)
    (hown : w'.ownsRow B 47 1 dv' (M.data.length + 1) (u32V M.data ++ [.int .u32 (v : Int)])) (hat : dv'.ownBlock = dv.ownBlock ∨ dv'.ownBlock = some (w.heap.size + 1)) : Parts w' B bm { M with data := M.data ++ [v] } dv' cv iv ov := by
  obtain ⟨g, hk, hBg, hg, hT⟩ := row_app h.data o hgr hBw
  have hbl := mem_lt h.mem
  have h1 : bm ≠ g := by rcases hg with hg | hg; exact fun e => h.dm (e ▸ hg); omega
  have h2 : cv.ownBlock ≠ some g := by
    rcases hg with hg | hg
    · exact h.dc g hg
    · exact fun e => by have := (own_lt h.calls e).2; omega
  have h3 : ov.ownBlock ≠ some g := own_type h.out (fun cs fz e => absurd (hT _ _ _ e) (by decide))
  obtain ⟨A, n, c, rfl, hl, hA⟩ := h.inp
  refine ⟨h.hbm, h.mem.keepB hk h1, by rw [u32V_snoc, List.length_append]; exact hown, own_keep h.calls hk h2, own_keep h.out hk h3, ⟨A, n, c, rfl, hl.keep hA hBg hk, hA⟩, ?_, h.cm, ?_, h.res.keep hk (fun cs fz e => absurd (hT _ _ _ e) (by decide))⟩
  · rcases hat with hat | hat
    · rw [hat]; exact h.dm
    · rw [hat]; intro e; simp at e; omega
  · intro g' hg'
    rcases hat with hat | hat
    · rw [hat] at hg'; exact h.dc g' hg'
    · rw [hat] at hg'
      simp at hg'
      intro e
      have := (own_lt h.calls e).2
      omega
theorem Parts.calls_app {w w' : World} {B bm : Nat} {M : MS} {dv cv cv' iv ov : Value} {v : Nat} (h : Parts w B bm M dv cv iv ov) (o : Obj) (hgr : (w.alloc o).grownBy w' cv.ownBlock) (hBw : B ≤ w.heap.size)
    (hown : w'.ownsRow B 47 1 cv' (M.calls.length + 1) (u32V M.calls ++ [.int .u32 (v : Int)])) (hat : cv'.ownBlock = cv.ownBlock ∨ cv'.ownBlock = some (w.heap.size + 1)) : Parts w' B bm { M with calls := M.calls ++ [v] } dv cv' iv ov := by
  obtain ⟨g, hk, hBg, hg, hT⟩ := row_app h.calls o hgr hBw
  have hbl := mem_lt h.mem
  have h1 : bm ≠ g := by rcases hg with hg | hg; exact fun e => h.cm (e ▸ hg); omega
  have h2 : dv.ownBlock ≠ some g := by
    rcases hg with hg | hg
    · exact fun e => h.dc g e hg
    · exact fun e => by have := (own_lt h.data e).2; omega
  have h3 : ov.ownBlock ≠ some g := own_type h.out (fun cs fz e => absurd (hT _ _ _ e) (by decide))
  obtain ⟨A, n, c, rfl, hl, hA⟩ := h.inp
  refine ⟨h.hbm, h.mem.keepB hk h1, own_keep h.data hk h2, by rw [u32V_snoc, List.length_append]; exact hown, own_keep h.out hk h3, ⟨A, n, c, rfl, hl.keep hA hBg hk, hA⟩, h.dm, ?_, ?_, h.res.keep hk (fun cs fz e => absurd (hT _ _ _ e) (by decide))⟩
  · rcases hat with hat | hat
    · rw [hat]; exact h.cm
    · rw [hat]; intro e; simp at e; omega
  · intro g' hg'
    rcases hat with hat | hat
    · rw [hat]; exact h.dc g' hg'
    · rw [hat]
      intro e
      simp at e
      have := (own_lt h.data hg').2
      omega
theorem Parts.out_app {w w' : World} {B bm : Nat} {M : MS} {dv cv iv ov ov' : Value} {v : UInt8} (h : Parts w B bm M dv cv iv ov) (o : Obj) (hgr : (w.alloc o).grownBy w' ov.ownBlock) (hBw : B ≤ w.heap.size)
    (hown : w'.ownsRow B 5 1 ov' (M.out.length + 1) (Lib.byteCells M.out ++ [.int .u8 (v.toNat : Int)])) : Parts w' B bm { M with out := M.out ++ [v] } dv cv iv ov' := by
  obtain ⟨g, hk, hBg, hg, hT⟩ := row_app h.out o hgr hBw
  have h4 : ∀ cs fz, w.heap[g]? ≠ some (.cells cs 47 fz) := fun cs fz e => absurd (hT _ _ _ e) (by decide)
  obtain ⟨arr, m1, -⟩ := h.mem
  obtain ⟨A, n, c, rfl, hl, hA⟩ := h.inp
  refine ⟨h.hbm, h.mem.keepB hk (fun e => h4 _ _ (e ▸ m1)), own_keep h.data hk (own_type h.data h4), own_keep h.calls hk (own_type h.calls h4), by simpa [Lib.byteCells] using hown, ⟨A, n, c, rfl, hl.keep hA hBg hk, hA⟩, h.dm, h.cm, h.dc, h.res.keep hk (fun cs fz e => absurd (hT _ _ _ e) (by decide))⟩
/-- a word of the memory is written -/
theorem Parts.mem_set {w : World} {B bm : Nat} {M : MS} {dv cv iv ov : Value} (h : Parts w B bm M dv cv iv ov) (a v : Nat) : Parts (w.setCell ⟨bm, a, none⟩ (.int .u32 (v : Int))) B bm { M with mem := setM M.mem a v } dv cv iv ov := by
  have hk : Keep bm w (w.setCell ⟨bm, a, none⟩ (.int .u32 (v : Int))) := Keep.set _ _
  obtain ⟨arr, m1, -⟩ := h.mem
  obtain ⟨A, n, c, rfl, hl, hA⟩ := h.inp
  refine ⟨h.hbm, h.mem.set a v, own_keep h.data hk h.dm, own_keep h.calls hk h.cm, own_keep h.out hk (own_type h.out ?_), ⟨A, n, c, rfl, hl.keep hA h.hbm hk, hA⟩, h.dm, h.cm, h.dc, h.res.keep hk (fun cs fz e => by rw [m1] at e; simp only [Option.some.injEq, Obj.cells.injEq] at e; exact absurd e.2.1 (by decide))⟩
  intro cs fz e
  rw [m1] at e
  simp only [Option.some.injEq, Obj.cells.injEq] at e
  exact absurd e.2.1 (by decide)
/-- the last value of the data stack is written -/
theorem Parts.data_set {w : World} {B bm : Nat} {M : MS} {dv cv iv ov : Value} {l : List Nat} {x y : Nat} (h : Parts w B bm M dv cv iv ov) (hd : M.data = l ++ [x]) :
    ∃ g cap, dv = .slice (some ⟨g, 0, none⟩) (l.length + 1) cap ∧ l.length + 1 ≤ cap ∧ cap ≤ maxLen ∧ w.cell? ⟨g, l.length, none⟩ = some (.int .u32 (x : Int)) ∧ w.frozen? ⟨g, l.length, none⟩ = false ∧ B ≤ g ∧ g < w.heap.size ∧
      Parts w B bm { M with data := l } (.slice (some ⟨g, 0, none⟩) l.length cap) cv iv ov ∧ Parts (w.setCell ⟨g, l.length, none⟩ (.int .u32 (y : Int))) B bm { M with data := l ++ [y] } dv cv iv ov ∧
      ∀ cs T fz, w.heap[g]? = some (.cells cs T fz) → T = 47 := by
  have h0 := h.data
  rw [hd, List.length_append, u32V_snoc] at h0
  obtain ⟨g, cap, rfl, k1, k2, k3, k4, k5, k6⟩ := own_pop h0 (u32V_len l)
  have hb : B ≤ g ∧ g < w.heap.size := own_lt h0 rfl
  have hT : ∀ cs T fz, w.heap[g]? = some (.cells cs T fz) → T = 47 := by
    intro cs T fz e
    rcases h0.2 with ⟨e2, _⟩ | ⟨g', cap', cur, e2, _, hg, _⟩
    · cases e2
    · cases e2
      rw [e] at hg
      simp only [Option.some.injEq, Obj.cells.injEq] at hg
      exact hg.2.1
  refine ⟨g, cap, rfl, k1, k2, k3, k4, hb.1, hb.2, ⟨h.hbm, h.mem, k5, h.calls, h.out, h.inp, h.dm, h.cm, h.dc, h.res⟩, ?_, hT⟩
  have hk : Keep g w (w.setCell ⟨g, l.length, none⟩ (.int .u32 (y : Int))) := Keep.set _ _
  obtain ⟨A, n, c, rfl, hl, hA⟩ := h.inp
  refine ⟨h.hbm, h.mem.keepB hk (fun e => h.dm (e ▸ rfl)), ?_, own_keep h.calls hk (h.dc g rfl), own_keep h.out hk (own_type h.out (fun cs fz e => absurd (hT _ _ _ e) (by decide))), ⟨A, n, c, rfl, hl.keep hA hb.1 hk, hA⟩, h.dm, h.cm, h.dc, h.res.keep hk (fun cs fz e => absurd (hT _ _ _ e) (by decide))⟩
  show World.ownsRow _ _ _ _ _ _ _
  rw [List.length_append, u32V_snoc]
  exact k6 _
/-- the last address of the return stack -/
theorem Parts.calls_pop {w : World} {B bm : Nat} {M : MS} {dv cv iv ov : Value} {l : List Nat} {x : Nat} (h : Parts w B bm M dv cv iv ov) (hd : M.calls = l ++ [x]) :
    ∃ g cap, cv = .slice (some ⟨g, 0, none⟩) (l.length + 1) cap ∧ l.length + 1 ≤ cap ∧ cap ≤ maxLen ∧ w.cell? ⟨g, l.length, none⟩ = some (.int .u32 (x : Int)) ∧ w.frozen? ⟨g, l.length, none⟩ = false ∧ B ≤ g ∧ g < w.heap.size ∧
      Parts w B bm { M with calls := l } dv (.slice (some ⟨g, 0, none⟩) l.length cap) iv ov := by
  have h0 := h.calls
  rw [hd, List.length_append, u32V_snoc] at h0
  obtain ⟨g, cap, rfl, k1, k2, k3, k4, k5, k6⟩ := own_pop h0 (u32V_len l)
  have hb : B ≤ g ∧ g < w.heap.size := own_lt h0 rfl
  exact ⟨g, cap, rfl, k1, k2, k3, k4, hb.1, hb.2, ⟨h.hbm, h.mem, h.data, k5, h.out, h.inp, h.dm, h.cm, h.dc, h.res⟩⟩
theorem map_set {w : World} {bb : Nat} {es : Array MapEntry} {k : Nat} (h : w.heap[bb]? = some (.map es k)) (a : Addr) (v : Value) : (w.setCell a v).heap[bb]? = some (.map es k) := by
  by_cases e : bb = a.block
  · subst e
    simp [World.setCell, Array.getElem?_modify, h]
  · rw [Below.heap_setCell _ _ _ _ e]; exact h
theorem map_app {w w' : World} {B bb : Nat} {t : TypeId} {dv : Value} {n : Nat} {xs : List Value} {es : Array MapEntry} {k : Nat} (h : w.heap[bb]? = some (.map es k)) (hd : w.ownsRow B t 1 dv n xs) (o : Obj) (hgr : (w.alloc o).grownBy w' dv.ownBlock) : w'.heap[bb]? = some (.map es k) := by
  have hlt : bb < w.heap.size := by
    rcases Nat.lt_or_ge bb w.heap.size with h' | h'
    · exact h'
    · simp [Array.getElem?_eq_none h'] at h
  rw [hgr.block bb (by simp; omega) ?_, Below.heap_alloc _ _ _ hlt]
  · exact h
  · rcases hd.2 with ⟨rfl, _⟩ | ⟨g, cap, cur, rfl, _, hg, _⟩
    · simp [Value.ownBlock]
    · intro e'
      simp only [Value.ownBlock, Option.some.injEq] at e'
      rw [e', hg] at h
      cases h
end Go.Proofs.YtimegcnpembhkaaDoor
namespace Go.Proofs.YtimegcnpembhkaaDoor
open Go.RowKit
open Go.Lib hiding intOf
set_option linter.unusedVariables false

def trapV : Value := .iface 114 (.agg #[])
theorem check_true (w : World) : Calls Tryd.prog 78 #[.bool true] w fun e w' => e = .returned (.tuple #[]) ∧ w = w' := by
  go_enter Tryd.func78, Tryd.ntmps78
  go_wp2
  go_end0
  exact ⟨rfl, rfl⟩
theorem check_false (w : World) : Calls Tryd.prog 78 #[.bool false] w fun e w' => e = .panicked [{ v := trapV, recovered := false }] ∧ w = w' := by
  go_enter Tryd.func78, Tryd.ntmps78
  go_wp2
  exact ⟨rfl, rfl, rfl⟩
def binEs : Array MapEntry := #[⟨.int .u32 43, .func (.func 74) #[] #[], 0⟩, ⟨.int .u32 45, .func (.func 75) #[] #[], 1⟩, ⟨.int .u32 42, .func (.func 76) #[] #[], 2⟩, ⟨.int .u32 47, .func (.func 77) #[] #[], 3⟩, ⟨.int .u32 37, .func (.func 79) #[] #[], 4⟩, ⟨.int .u32 94, .func (.func 80) #[] #[], 5⟩, ⟨.int .u32 60, .func (.func 81) #[] #[], 6⟩]
/-- the machine in block b -/
def LibM (w : World) (B b bm bb : Nat) (M : MS) (steps : Nat) (stopped : Bool) (dv cv iv ov : Value) : Prop :=
  Blk w b 93 [.slice (some ⟨bm, 0, none⟩) 262144 262144, .int .u32 (M.pc : Int), dv, cv, iv, ov, .bool M.digit, .int .i64 (steps : Int), .bool stopped, .map (some bb)] ∧ B ≤ b ∧ Parts w B bm M dv cv iv ov ∧ w.heap[bb]? = some (.map binEs 7)
theorem blk_cell {w : World} {b : Nat} {T : TypeId} {xs : List Value} (h : Blk w b T xs) (i : Nat) (v : Value) (hv : xs[i]? = some v) : w.cell? ⟨b, i, none⟩ = some v := h.cell hv
theorem blk_frozen {w : World} {b : Nat} {T : TypeId} {xs : List Value} (h : Blk w b T xs) (i : Nat) : w.frozen? ⟨b, i, none⟩ = false := Lib.frozen_of_heap (show w.heap[b]? = _ from h) i
theorem blk_set {w : World} {b : Nat} {T : TypeId} {xs : List Value} (h : Blk w b T xs) (i : Nat) (v : Value) : Blk (w.setCell ⟨b, i, none⟩ v) b T (xs.set i v) := by
  unfold Blk at h ⊢
  simp [World.setCell, Array.getElem?_modify, h]
theorem ten {w : World} {b : Nat} {T : TypeId} {x0 x1 x2 x3 x4 x5 x6 x7 x8 x9 : Value} (h : Blk w b T [x0, x1, x2, x3, x4, x5, x6, x7, x8, x9]) :
    (w.cell? ⟨b, 0, none⟩ = some x0 ∧ w.cell? ⟨b, 1, none⟩ = some x1 ∧ w.cell? ⟨b, 2, none⟩ = some x2 ∧ w.cell? ⟨b, 3, none⟩ = some x3 ∧ w.cell? ⟨b, 4, none⟩ = some x4 ∧ w.cell? ⟨b, 5, none⟩ = some x5 ∧ w.cell? ⟨b, 6, none⟩ = some x6 ∧ w.cell? ⟨b, 7, none⟩ = some x7 ∧ w.cell? ⟨b, 8, none⟩ = some x8 ∧ w.cell? ⟨b, 9, none⟩ = some x9) ∧
    (∀ i, w.frozen? ⟨b, i, none⟩ = false) ∧ b < w.heap.size :=
  ⟨⟨h.cell rfl, h.cell rfl, h.cell rfl, h.cell rfl, h.cell rfl, h.cell rfl, h.cell rfl, h.cell rfl, h.cell rfl, h.cell rfl⟩, fun i => blk_frozen h i, h.lt⟩
theorem blk_not {w : World} {b : Nat} {T e : TypeId} {xs : List Value} (h : Blk w b T xs) (he : T ≠ e) : ∀ cs fz, w.heap[b]? ≠ some (.cells cs e fz) := by
  intro cs fz hc
  rw [show w.heap[b]? = _ from h] at hc
  simp only [Option.some.injEq, Obj.cells.injEq] at hc
  exact he hc.2.1

set_option maxRecDepth 100000 in
set_option maxHeartbeats 3200000 in
theorem push_any (B b bm bb : Nat) (M : MS) (steps : Nat) (st : Bool) (dv cv iv ov : Value) (v : Nat) (w : World) (h : LibM w B b bm bb M steps st dv cv iv ov) (hd : M.data.length < 256) (hBw : B ≤ w.heap.size) :
    Calls Tryd.prog 106 #[.pointer (some ⟨b, 0, none⟩), .int .u32 (v : Int)] w fun e w' => ∃ dv', e = .returned (.tuple #[]) ∧ LibM w' B b bm bb { M with data := M.data ++ [v] } steps st dv' cv iv ov ∧ Below B w w' := by
  obtain ⟨hb, hBb, hp, hmp⟩ := h
  have HB := Lib.hid hb
  have HP := Lib.hid hp
  obtain ⟨⟨c0, c1, c2, c3, c4, c5, c6, c7, c8, c9⟩, hfz, hlt⟩ := ten hb
  have f2 := hfz 2
  obtain ⟨A, cd, rfl, hl⟩ := Lst.of_own hp.data
  have hrm := hl.room
  have hmx := hl.max
  unfold maxLen at hmx
  have HC := Lib.hid (fun W => check_true W)
  have HO := Lib.hid hp.data
  obtain ⟨i0, hi, hz0, hz1, hz2⟩ := info_parts u32InfoM
  obtain ⟨m, hm⟩ : ∃ m, m = M.data.length := ⟨_, rfl⟩
  rw [← hm] at hd hl hrm HO HB HP c2
  have hx : Below B w w := Below.refl _ _
  have HM := Lib.hid hm
  have hdt : decide ((m : Int) < 256) = true := decide_eq_true (by omega)
  have HMP0 := Lib.hid hmp
  clear hb hp hfz hl hm hmp
  go_enter Tryd.func106, Tryd.ntmps106
  go_wp2_with fail
  refine (HC.out _).mono ?_
  rintro e w1 ⟨rfl, rfl⟩
  go_wp2_with (at_builtin; refine wpList_append_own_at _ rfl (.tmp 15) (.tmp 17) _ rfl B 47 i0 _ 1 4 Tryd.underlying88 hi hz0 hz1 hz2 rfl (by omega) _ _ _ rfl (HO.out.alloc _) ⟨w.heap.size, 0, none⟩ 1 1 [.int .u32 (v : Int)] rfl rfl (cell_one_new _ _ _) ?k1 ?k2 ?k3 ?k4 ?_)
  case k1 => intro u hu; simp at hu; subst hu; rfl
  case k2 => unfold maxLen; omega
  case k3 => omega
  case k4 => simp; omega
  intro dv' w2 hown2 hgr _ hat
  obtain ⟨A2, cd2, rfl, -⟩ := Lst.of_own hown2
  have hb2 : Blk w2 b 93 _ := (HB.out.alloc (.cells #[.int .u32 (v : Int)] 47)).grown (HO.out.alloc _) (by decide) hgr
  have hp2 := HP.out.data_app (v := v) _ hgr hBw (by rw [← HM.out]; exact hown2) hat
  have HMP := Lib.hid (map_app HMP0.out HO.out _ hgr)
  have hx2 : Below B w w2 := ((Below.refl B w).alloc hBw _).grown hgr (by simp; omega) (fun k hk => (HO.out.lt k hk).1)
  obtain ⟨⟨d0, d1, d2, d3, d4, d5, d6, d7, d8, d9⟩, hfz2, hlt2⟩ := ten hb2
  have g2 := hfz2 2
  have HB2 := Lib.hid hb2
  have HP2 := Lib.hid hp2
  have HX2 := Lib.hid hx2
  clear hb2 hp2 hx2 hfz2 hown2 hgr hat c0 c1 c2 c3 c4 c5 c6 c7 c8 c9 HO HB HP f2
  go_wp2_with fail
  go_end0
  exact ⟨_, rfl, ⟨blk_set HB2.out 2 _, hBb, HP2.out.keep hBb (blk_not HB2.out (by decide)) (blk_not HB2.out (by decide)) (blk_not HB2.out (by decide)) (Keep.set 2 _), map_set HMP.out _ _⟩, HX2.out.setCell hBb _⟩
set_option maxRecDepth 100000 in
theorem push_full (B b bm bb : Nat) (M : MS) (steps : Nat) (st : Bool) (dv cv iv ov : Value) (v : Nat) (w : World) (h : LibM w B b bm bb M steps st dv cv iv ov) (hd : 256 ≤ M.data.length) :
    Calls Tryd.prog 106 #[.pointer (some ⟨b, 0, none⟩), .int .u32 (v : Int)] w fun e w' => e = .panicked [{ v := trapV, recovered := false }] ∧ w = w' := by
  obtain ⟨hb, hBb, hp, hmp⟩ := h
  obtain ⟨⟨c0, c1, c2, c3, c4, c5, c6, c7, c8, c9⟩, hfz, hlt⟩ := ten hb
  obtain ⟨A, cd, rfl, hl⟩ := Lst.of_own hp.data
  have HC := Lib.hid (fun W => check_false W)
  obtain ⟨m, hm⟩ : ∃ m, m = M.data.length := ⟨_, rfl⟩
  rw [← hm] at hd c2
  have hdt : decide ((m : Int) < 256) = false := decide_eq_false (by omega)
  clear hb hp hfz hl hm hmp
  go_enter Tryd.func106, Tryd.ntmps106
  go_wp2_with fail
  refine (HC.out _).mono ?_
  rintro e w1 ⟨rfl, rfl⟩
  go_wp2_with fail
  exact ⟨rfl, rfl, rfl⟩
set_option maxRecDepth 100000 in
set_option maxHeartbeats 3200000 in
theorem pop_any (B b bm bb : Nat) (M : MS) (steps : Nat) (st : Bool) (dv cv iv ov : Value) (l : List Nat) (v : Nat) (w : World) (h : LibM w B b bm bb M steps st dv cv iv ov) (hd : M.data = l ++ [v]) (hl6 : l.length ≤ 1000) :
    Calls Tryd.prog 108 #[.pointer (some ⟨b, 0, none⟩)] w fun e w' => ∃ dv', e = .returned (.int .u32 (v : Int)) ∧ LibM w' B b bm bb { M with data := l } steps st dv' cv iv ov ∧ Below B w w' := by
  obtain ⟨hb, hBb, hp, hmp⟩ := h
  have HB := Lib.hid hb
  have HMP := Lib.hid hmp
  obtain ⟨g, cap, rfl, k1, k2, k3, k4, k5, k6, k7, k8, k9⟩ := hp.data_set (y := 0) hd
  unfold maxLen at k2
  have HP := Lib.hid k7
  have HC := Lib.hid (fun W => check_true W)
  obtain ⟨m, hm⟩ : ∃ m, m = l.length := ⟨_, rfl⟩
  rw [← hm] at hb HB HP k1 k3 k4 hl6
  obtain ⟨⟨c0, c1, c2, c3, c4, c5, c6, c7, c8, c9⟩, hfz, hlt⟩ := ten hb
  have f2 := hfz 2
  clear hb hp hfz k7 k8 k9 hm hd hmp
  go_enter Tryd.func108, Tryd.ntmps108
  go_wp2_with fail
  refine (HC.out _).mono ?_
  rintro e w1 ⟨rfl, rfl⟩
  go_wp2_with fail
  go_ret
  exact ⟨_, rfl, ⟨blk_set HB.out 2 _, hBb, HP.out.keep hBb (blk_not HB.out (by decide)) (blk_not HB.out (by decide)) (blk_not HB.out (by decide)) (Keep.set 2 _), map_set HMP.out _ _⟩, (Below.refl B w).setCell hBb _⟩
set_option maxRecDepth 100000 in
theorem pop_none (B b bm bb : Nat) (M : MS) (steps : Nat) (st : Bool) (dv cv iv ov : Value) (w : World) (h : LibM w B b bm bb M steps st dv cv iv ov) (hd : M.data = []) :
    Calls Tryd.prog 108 #[.pointer (some ⟨b, 0, none⟩)] w fun e w' => e = .panicked [{ v := trapV, recovered := false }] ∧ w = w' := by
  obtain ⟨hb, hBb, hp, hmp⟩ := h
  obtain ⟨⟨c0, c1, c2, c3, c4, c5, c6, c7, c8, c9⟩, hfz, hlt⟩ := ten hb
  obtain ⟨A, cd, rfl, hl⟩ := Lst.of_own hp.data
  have HC := Lib.hid (fun W => check_false W)
  rw [hd] at c2
  simp only [List.length_nil] at c2
  clear hb hp hfz hl hd hmp
  go_enter Tryd.func108, Tryd.ntmps108
  go_wp2_with fail
  refine (HC.out _).mono ?_
  rintro e w1 ⟨rfl, rfl⟩
  go_wp2_with fail
  exact ⟨rfl, rfl, rfl⟩
set_option maxRecDepth 100000 in
theorem addr_any (B b bm bb : Nat) (M : MS) (steps : Nat) (st : Bool) (dv cv iv ov : Value) (l : List Nat) (v : Nat) (w : World) (h : LibM w B b bm bb M steps st dv cv iv ov) (hd : M.data = l ++ [v]) (hl6 : l.length ≤ 1000) (hv : v < 262144) :
    Calls Tryd.prog 107 #[.pointer (some ⟨b, 0, none⟩)] w fun e w' => ∃ dv', e = .returned (.int .u32 (v : Int)) ∧ LibM w' B b bm bb { M with data := l } steps st dv' cv iv ov ∧ Below B w w' := by
  have HP := Lib.hid (pop_any B b bm bb M steps st dv cv iv ov l v w h hd hl6)
  have HC := Lib.hid (fun W => check_true W)
  have hdt : decide ((v : Int) < 262144) = true := decide_eq_true (by omega)
  clear h hd
  go_enter Tryd.func107, Tryd.ntmps107
  go_wp2_with fail
  refine HP.out.mono ?_
  rintro e w1 ⟨dv1, rfl, h1, hb1⟩
  have H1 := Lib.hid h1
  clear h1
  go_wp2_with fail
  refine (HC.out _).mono ?_
  rintro e w2 ⟨rfl, rfl⟩
  go_wp2_with fail
  go_ret
  exact ⟨dv1, rfl, H1.out, hb1⟩
set_option maxRecDepth 100000 in
theorem addr_far (B b bm bb : Nat) (M : MS) (steps : Nat) (st : Bool) (dv cv iv ov : Value) (l : List Nat) (v : Nat) (w : World) (h : LibM w B b bm bb M steps st dv cv iv ov) (hd : M.data = l ++ [v]) (hl6 : l.length ≤ 1000) (hv : 262144 ≤ v) :
    Calls Tryd.prog 107 #[.pointer (some ⟨b, 0, none⟩)] w fun e w' => ∃ dv', e = .panicked [{ v := trapV, recovered := false }] ∧ LibM w' B b bm bb { M with data := l } steps st dv' cv iv ov ∧ Below B w w' := by
  have HP := Lib.hid (pop_any B b bm bb M steps st dv cv iv ov l v w h hd hl6)
  have HC := Lib.hid (fun W => check_false W)
  have hdt : decide ((v : Int) < 262144) = false := decide_eq_false (by omega)
  clear h hd
  go_enter Tryd.func107, Tryd.ntmps107
  go_wp2_with fail
  refine HP.out.mono ?_
  rintro e w1 ⟨dv1, rfl, h1, hb1⟩
  have H1 := Lib.hid h1
  clear h1
  go_wp2_with fail
  refine (HC.out _).mono ?_
  rintro e w2 ⟨rfl, rfl⟩
  go_wp2_with fail
  exact ⟨rfl, dv1, rfl, H1.out, hb1⟩
set_option maxRecDepth 100000 in
theorem addr_none (B b bm bb : Nat) (M : MS) (steps : Nat) (st : Bool) (dv cv iv ov : Value) (w : World) (h : LibM w B b bm bb M steps st dv cv iv ov) (hd : M.data = []) :
    Calls Tryd.prog 107 #[.pointer (some ⟨b, 0, none⟩)] w fun e w' => e = .panicked [{ v := trapV, recovered := false }] ∧ w = w' := by
  have HP := Lib.hid (pop_none B b bm bb M steps st dv cv iv ov w h hd)
  clear h hd
  go_enter Tryd.func107, Tryd.ntmps107
  go_wp2_with fail
  refine HP.out.mono ?_
  rintro e w1 ⟨rfl, rfl⟩
  go_wp2_with fail
  exact ⟨rfl, rfl, rfl⟩
end Go.Proofs.YtimegcnpembhkaaDoor
namespace Go.Proofs.YtimegcnpembhkaaDoor
open Go.RowKit
open Go.Lib hiding intOf
set_option linter.unusedVariables false

theorem mapUpd (bb : Nat) (w : World) (es : Array MapEntry) (clk : Nat) (c : Int) (v : Value) (h : w.heap[bb]? = some (.map es clk)) (hf : Instr.findNow (.int .u32) (.int .u32 c) es.toList 0 = some none) :
    (Instr.mapUpdate 90 (.map (some bb)) (.int .u32 c) v).run Tryd.prog w = .ok () (w.putObj bb (.map (es.push ⟨.int .u32 c, v, clk⟩) (clk + 1))) := by
  unfold Instr.mapUpdate
  simp only [Sem.run_bind, run_underlying Tryd.underlying90, Result.andThen_ok, MapKept.run_getObj_map h, MapKept.run_checkKey (k := .int .u32 c) Tryd.underlying47 rfl, MapKept.run_findKey Tryd.underlying47 hf, MapKept.run_setObj_map _ h]
  rfl
theorem lookup_at (w : World) (bb : Nat) (c : Int) (i : Nat) (v : Value) (h : w.heap[bb]? = some (.map binEs 7)) (hf : Instr.findNow (.int .u32) (.int .u32 c) binEs.toList 0 = some (some (i, v))) :
    (Instr.lookup 90 (.map (some bb)) (.int .u32 c) true).run Tryd.prog w = .ok (.tuple #[v, .bool true]) w := by
  unfold Instr.lookup
  simp only [Sem.run_bind, run_underlying Tryd.underlying90, Result.andThen_ok, MapKept.run_getObj_map h, Sem.run_pure, MapKept.run_checkKey (k := .int .u32 c) Tryd.underlying47 rfl, MapKept.run_findKey Tryd.underlying47 hf]
  rfl
theorem lookup_not (w : World) (bb : Nat) (c : Int) (h : w.heap[bb]? = some (.map binEs 7)) (hf : Instr.findNow (.int .u32) (.int .u32 c) binEs.toList 0 = some none) :
    (Instr.lookup 90 (.map (some bb)) (.int .u32 c) true).run Tryd.prog w = .ok (.tuple #[.nilFunc, .bool false]) w := by
  have hz : (zeroValue 111).run Tryd.prog w = .ok .nilFunc w := by kernel_rfl
  unfold Instr.lookup
  simp only [Sem.run_bind, run_underlying Tryd.underlying90, Result.andThen_ok, MapKept.run_getObj_map h, Sem.run_pure, MapKept.run_checkKey (k := .int .u32 c) Tryd.underlying47 rfl, MapKept.run_findKey Tryd.underlying47 hf]
  rw [hz]
  rfl
def binF (n : Nat) : Array MapEntry := (binEs.toList.take n).toArray
set_option maxRecDepth 100000 in
set_option maxHeartbeats 1600000 in
theorem binaries_any (w : World) : Calls Tryd.prog 50 #[] w fun e w' => e = .returned (.map (some w.heap.size)) ∧ Ext w w' ∧ w'.heap[w.heap.size]? = some (.map binEs 7) := by
  have hmm := @run_makeMap Tryd.prog
  have hL : ∀ (W : World) (es : Array MapEntry) (k : Nat), w.heap.size < W.heap.size → (W.putObj w.heap.size (.map es k)).heap[w.heap.size]? = some (.map es k) := fun W es k h => World.putObj_heap_same h
  have hs : ∀ (W : World) (o : Obj), (W.putObj w.heap.size o).heap.size = W.heap.size := fun W o => by simp [World.putObj]
  obtain ⟨W0, hW0⟩ : ∃ W, W = w.alloc (.map #[] 0) := ⟨_, rfl⟩
  have z0 : w.heap.size < W0.heap.size := by rw [hW0]; simp
  have m1 := mapUpd w.heap.size W0 #[] 0 43 (.func (.func 74) #[] #[]) (by rw [hW0]; exact World.alloc_heap_new w _) rfl
  obtain ⟨W1, hW1⟩ : ∃ W, W = W0.putObj w.heap.size (.map (Array.push #[] ⟨.int .u32 43, .func (.func 74) #[] #[], 0⟩) (0 + 1)) := ⟨_, rfl⟩
  rw [← hW1] at m1
  have z1 : w.heap.size < W1.heap.size := by rw [hW1, hs]; exact z0
  have m2 := mapUpd w.heap.size W1 _ _ 45 (.func (.func 75) #[] #[]) (by rw [hW1]; exact hL _ _ _ z0) rfl
  generalize hW2 : W1.putObj w.heap.size _ = W2 at m2
  have z2 : w.heap.size < W2.heap.size := by rw [← hW2, hs]; exact z1
  have m3 := mapUpd w.heap.size W2 _ _ 42 (.func (.func 76) #[] #[]) (by rw [← hW2]; exact hL _ _ _ z1) rfl
  generalize hW3 : W2.putObj w.heap.size _ = W3 at m3
  have z3 : w.heap.size < W3.heap.size := by rw [← hW3, hs]; exact z2
  have m4 := mapUpd w.heap.size W3 _ _ 47 (.func (.func 77) #[] #[]) (by rw [← hW3]; exact hL _ _ _ z2) rfl
  generalize hW4 : W3.putObj w.heap.size _ = W4 at m4
  have z4 : w.heap.size < W4.heap.size := by rw [← hW4, hs]; exact z3
  have m5 := mapUpd w.heap.size W4 _ _ 37 (.func (.func 79) #[] #[]) (by rw [← hW4]; exact hL _ _ _ z3) rfl
  generalize hW5 : W4.putObj w.heap.size _ = W5 at m5
  have z5 : w.heap.size < W5.heap.size := by rw [← hW5, hs]; exact z4
  have m6 := mapUpd w.heap.size W5 _ _ 94 (.func (.func 80) #[] #[]) (by rw [← hW5]; exact hL _ _ _ z4) rfl
  generalize hW6 : W5.putObj w.heap.size _ = W6 at m6
  have z6 : w.heap.size < W6.heap.size := by rw [← hW6, hs]; exact z5
  have m7 := mapUpd w.heap.size W6 _ _ 60 (.func (.func 81) #[] #[]) (by rw [← hW6]; exact hL _ _ _ z5) rfl
  generalize hW7 : W6.putObj w.heap.size _ = W7 at m7
  have hx : ∀ (W : World) (o : Obj), Below w.heap.size W (W.putObj w.heap.size o) := fun W o => ⟨rfl, rfl, rfl, by rw [hs]; exact Nat.le_refl _, fun k hk => World.putObj_heap_other (by omega)⟩
  have HX : Hid (Ext w W7) := by
    show Below _ _ _
    have h0 : Below w.heap.size w W0 := by rw [hW0]; exact (Ext.refl w).alloc _
    have h1 : Below w.heap.size W0 W1 := by rw [hW1]; exact hx _ _
    have h2 : Below w.heap.size W1 W2 := by rw [← hW2]; exact hx _ _
    have h3 : Below w.heap.size W2 W3 := by rw [← hW3]; exact hx _ _
    have h4 : Below w.heap.size W3 W4 := by rw [← hW4]; exact hx _ _
    have h5 : Below w.heap.size W4 W5 := by rw [← hW5]; exact hx _ _
    have h6 : Below w.heap.size W5 W6 := by rw [← hW6]; exact hx _ _
    have h7 : Below w.heap.size W6 W7 := by rw [← hW7]; exact hx _ _
    exact ((((((h0.trans h1).trans h2).trans h3).trans h4).trans h5).trans h6).trans h7
  have HM : Hid (W7.heap[w.heap.size]? = some (.map binEs 7)) := by
    show _ = _
    rw [← hW7]
    exact hL _ _ _ z6
  clear hW1 hW2 hW3 hW4 hW5 hW6 hW7 hx hL hs
  go_enter Tryd.func50, Tryd.ntmps50
  rw [hW0] at m1
  go_wp2_with fail
  go_ret
  exact ⟨rfl, HX.out, HM.out⟩
end Go.Proofs.YtimegcnpembhkaaDoor
namespace Go.Proofs.YtimegcnpembhkaaDoor
open Go.RowKit
open Go.Lib hiding intOf
set_option linter.unusedVariables false

theorem mem_dropLast' {α : Type} {l : List α} {x : α} (h : x ∈ l.dropLast) : x ∈ l := List.dropLast_subset l h
theorem popS_ok {m m' : MS} {v : Nat} (ok : m.Ok) (h : popS m = some (v, m')) : v < 4294967296 ∧ m' = { m with data := m.data.dropLast } ∧ m.data.length = m.data.dropLast.length + 1 := by
  unfold popS at h
  cases hl : m.data.getLast? with
  | none => rw [hl] at h; cases h
  | some x =>
    rw [hl] at h
    cases h
    refine ⟨ok.data _ (List.mem_of_getLast? hl), rfl, ?_⟩
    have : m.data ≠ [] := by intro e; rw [e] at hl; cases hl
    have := List.length_pos_iff.2 this
    rw [List.length_dropLast]; omega
/-- the machine after a step: what holds but for the digit -/
structure MS.Fit (m : MS) : Prop where
  mem : ∀ i, m.mem i < 4294967296
  pc : m.pc < 4294967296
  data : ∀ v ∈ m.data, v < 4294967296
  calls : ∀ v ∈ m.calls, v < 4294967296
  input : ∀ v ∈ m.input, v < 4294967296
  dlen : m.data.length ≤ 256
  clen : m.calls.length ≤ 64
  ilen : m.input.length ≤ 1000000
theorem MS.Ok.fit {m : MS} (h : m.Ok) : m.Fit := ⟨h.mem, h.pc, h.data, h.calls, h.input, h.dlen, h.clen, h.ilen⟩
theorem MS.Fit.ok {m : MS} (h : m.Fit) (d : Bool) (hd : d = true → m.data ≠ []) : ({ m with digit := d } : MS).Ok := ⟨h.mem, h.pc, h.data, h.calls, h.input, h.dlen, h.clen, h.ilen, hd⟩
theorem MS.Fit.pop {m m' : MS} {v : Nat} (ok : m.Fit) (h : popS m = some (v, m')) : v < 4294967296 ∧ m'.Fit ∧ m'.out = m.out ∧ m'.calls = m.calls ∧ m'.pc = m.pc ∧ m'.data.length < 256 := by
  unfold popS at h
  cases hl : m.data.getLast? with
  | none => rw [hl] at h; cases h
  | some x =>
    rw [hl] at h
    cases h
    have hn : m.data ≠ [] := by intro e; rw [e] at hl; cases hl
    have hp := List.length_pos_iff.2 hn
    have hq := ok.dlen
    have hlt : m.data.dropLast.length < 256 := by rw [List.length_dropLast]; omega
    exact ⟨ok.data _ (List.mem_of_getLast? hl), ⟨ok.mem, ok.pc, fun y hy => ok.data y (mem_dropLast' hy), ok.calls, ok.input, by show m.data.dropLast.length ≤ 256; omega, ok.clen, ok.ilen⟩, rfl, rfl, rfl, hlt⟩
theorem MS.Fit.push {m m' : MS} {v : Nat} (ok : m.Fit) (hv : v < 4294967296) (h : pushS v m = some m') : m'.Fit ∧ m'.out = m.out ∧ m'.data ≠ [] := by
  unfold pushS at h
  split at h
  · rename_i hl
    cases h
    refine ⟨⟨ok.mem, ok.pc, fun y hy => ?_, ok.calls, ok.input, by simp; omega, ok.clen, ok.ilen⟩, rfl, by simp⟩
    rcases List.mem_append.1 hy with hy | hy
    · exact ok.data y hy
    · rw [List.mem_singleton.1 hy]; exact hv
  · cases h
theorem MS.Fit.addr {m m' : MS} {a : Nat} (ok : m.Fit) (h : addrS m = some (a, m')) : a < 262144 ∧ m'.Fit ∧ m'.out = m.out := by
  unfold addrS at h
  cases hp : popS m with
  | none => rw [hp] at h; cases h
  | some r =>
    obtain ⟨x, m1⟩ := r
    rw [hp] at h
    simp only at h
    split at h
    · rename_i hx; cases h; exact ⟨hx, (ok.pop hp).2.1, (ok.pop hp).2.2.1⟩
    · cases h
theorem binS_lt {c a b v : Nat} (ha : a < 4294967296) (hb : b < 4294967296) (h : binS c a b = some v) : v < 4294967296 := by
  unfold binS at h
  repeat' split at h
  all_goals first | (cases h; done) | skip
  · cases h; exact Nat.mod_lt _ (by decide)
  · cases h; exact Nat.mod_lt _ (by decide)
  · cases h; exact Nat.mod_lt _ (by decide)
  · cases h; exact Nat.lt_of_le_of_lt (Nat.div_le_self a b) ha
  · cases h; exact Nat.lt_of_le_of_lt (Nat.mod_le a b) ha
  · cases h; exact Nat.xor_lt_two_pow (n := 32) ha hb
  · cases h; decide
  · cases h; decide
theorem step_fit {m m' : MS} {c : Nat} (ok : m.Ok) (hc : c < 4294967296) (h : stepS m c = some m') : m'.Fit ∧ m'.out.length ≤ m.out.length + 1 ∧ (digN c = true → m'.data ≠ []) := by
  have F := ok.fit
  unfold stepS at h
  split at h
  · rename_i hd
    split at h
    · cases h
      refine ⟨⟨F.mem, F.pc, fun y hy => ?_, F.calls, F.input, ?_, F.clen, F.ilen⟩, by simp, fun _ => by simp⟩
      · rcases List.mem_append.1 hy with hy | hy
        · exact F.data y (mem_dropLast' hy)
        · rw [List.mem_singleton.1 hy]; exact Nat.mod_lt _ (by decide)
      · rename_i hg
        have := List.length_pos_iff.2 (ok.dig hg)
        have := F.dlen
        simp only [List.length_append, List.length_dropLast, List.length_singleton]; omega
    · obtain ⟨h1, h2, h3⟩ := F.push (by omega) h
      exact ⟨h1, by rw [h2]; omega, fun _ => h3⟩
  rename_i hd
  refine (fun (hh : m'.Fit ∧ m'.out.length ≤ m.out.length + 1) => ⟨hh.1, hh.2, fun e => absurd e hd⟩) ?_
  split at h
  · cases h; exact ⟨F, by omega⟩
  split at h
  · obtain ⟨⟨y, m1⟩, e1, h⟩ := Option.bind_eq_some_iff.1 h
    obtain ⟨⟨x, m2⟩, e2, h⟩ := Option.bind_eq_some_iff.1 h
    obtain ⟨v, e3, h⟩ := Option.bind_eq_some_iff.1 h
    obtain ⟨p1, p2, p3, _⟩ := F.pop e1
    obtain ⟨q1, q2, q3, _⟩ := p2.pop e2
    obtain ⟨r1, r2, _⟩ := q2.push (binS_lt q1 p1 e3) h
    exact ⟨r1, by rw [r2, q3, p3]; omega⟩
  split at h
  · obtain ⟨⟨a, m1⟩, e1, h⟩ := Option.bind_eq_some_iff.1 h
    obtain ⟨p1, p2, p3⟩ := F.addr e1
    obtain ⟨r1, r2, _⟩ := p2.push (p2.mem a) h
    exact ⟨r1, by rw [r2, p3]; omega⟩
  split at h
  · obtain ⟨⟨a, m1⟩, e1, h⟩ := Option.bind_eq_some_iff.1 h
    obtain ⟨⟨v, m2⟩, e2, h⟩ := Option.bind_eq_some_iff.1 h
    obtain ⟨p1, p2, p3⟩ := F.addr e1
    obtain ⟨q1, q2, q3, _⟩ := p2.pop e2
    cases h
    refine ⟨⟨fun i => ?_, q2.pc, q2.data, q2.calls, q2.input, q2.dlen, q2.clen, q2.ilen⟩, by show m2.out.length ≤ _; rw [q3, p3]; omega⟩
    show setM m2.mem a v i < _
    unfold setM
    split
    · exact q1
    · exact q2.mem i
  split at h
  · obtain ⟨⟨t, m1⟩, e1, h⟩ := Option.bind_eq_some_iff.1 h
    obtain ⟨⟨v, m2⟩, e2, h⟩ := Option.bind_eq_some_iff.1 h
    obtain ⟨p1, p2, p3, _⟩ := F.pop e1
    obtain ⟨q1, q2, q3, _⟩ := p2.pop e2
    cases h
    split
    · exact ⟨⟨q2.mem, p1, q2.data, q2.calls, q2.input, q2.dlen, q2.clen, q2.ilen⟩, by show m2.out.length ≤ _; rw [q3, p3]; omega⟩
    · exact ⟨q2, by rw [q3, p3]; omega⟩
  split at h
  · obtain ⟨⟨t, m1⟩, e1, h⟩ := Option.bind_eq_some_iff.1 h
    obtain ⟨p1, p2, p3, p4, p5, _⟩ := F.pop e1
    dsimp only at h
    split at h
    · rename_i hl
      cases h
      refine ⟨⟨p2.mem, p1, p2.data, fun y hy => ?_, p2.input, p2.dlen, by simp; omega, p2.ilen⟩, by show m1.out.length ≤ _; rw [p3]; omega⟩
      rcases List.mem_append.1 hy with hy | hy
      · exact p2.calls y hy
      · rw [List.mem_singleton.1 hy]; exact p2.pc
    · cases h
  split at h
  · cases hl : m.calls.getLast? with
    | none => rw [hl] at h; cases h
    | some p =>
      rw [hl] at h
      cases h
      have := F.clen
      exact ⟨⟨F.mem, F.calls _ (List.mem_of_getLast? hl), F.data, fun y hy => F.calls y (mem_dropLast' hy), F.input, F.dlen, by simp only [List.length_dropLast]; omega, F.ilen⟩, by simp⟩
  split at h
  · cases hi : m.input with
    | nil => rw [hi] at h; obtain ⟨r1, r2, _⟩ := F.push (by decide) h; exact ⟨r1, by rw [r2]; omega⟩
    | cons x l =>
      rw [hi] at h
      have hx : x < 4294967296 := F.input x (by rw [hi]; simp)
      have hil := F.ilen
      rw [hi] at hil
      have F2 : ({ m with input := l } : MS).Fit := ⟨F.mem, F.pc, F.data, F.calls, fun y hy => F.input y (by rw [hi]; exact List.mem_cons_of_mem _ hy), F.dlen, F.clen, by simp only [List.length_cons] at hil; show l.length ≤ _; omega⟩
      obtain ⟨r1, r2, _⟩ := F2.push hx h
      exact ⟨r1, by rw [r2]; show m.out.length ≤ _; omega⟩
  split at h
  · obtain ⟨⟨v, m1⟩, e1, h⟩ := Option.bind_eq_some_iff.1 h
    obtain ⟨p1, p2, p3, _⟩ := F.pop e1
    cases h
    exact ⟨⟨p2.mem, p2.pc, p2.data, p2.calls, p2.input, p2.dlen, p2.clen, p2.ilen⟩, by show (m1.out ++ _).length ≤ _; rw [p3]; simp⟩
  · cases h
/-- the machine with another ghost -/
def MS.ghost (m : MS) (r : Option (Nat × Int)) : MS := { m with res := r }
theorem popS_ghost (m : MS) (r : Option (Nat × Int)) : popS (m.ghost r) = (popS m).map fun q => (q.1, q.2.ghost r) := by
  unfold popS MS.ghost
  dsimp only
  cases m.data.getLast? <;> rfl
theorem pushS_ghost (v : Nat) (m : MS) (r : Option (Nat × Int)) : pushS v (m.ghost r) = (pushS v m).map (MS.ghost · r) := by
  unfold pushS MS.ghost
  dsimp only
  split <;> rfl
theorem addrS_ghost (m : MS) (r : Option (Nat × Int)) : addrS (m.ghost r) = (addrS m).map fun q => (q.1, q.2.ghost r) := by
  unfold addrS
  rw [popS_ghost]
  cases popS m with
  | none => rfl
  | some q =>
    dsimp only [Option.map]
    split <;> rfl
theorem bind_ghost {α β : Type} (x : Option α) (f : α → α) (g g' : α → Option β) (k : β → β) (h : ∀ a, g' (f a) = (g a).map k) : (x.map f).bind g' = (x.bind g).map k := by
  cases x with
  | none => rfl
  | some a => exact h a
theorem stepS_ghost (m : MS) (c : Nat) (r : Option (Nat × Int)) : stepS (m.ghost r) c = (stepS m c).map (MS.ghost · r) := by
  unfold stepS
  by_cases h1 : digN c = true
  · rw [if_pos h1, if_pos h1, show (m.ghost r).digit = m.digit from rfl]
    by_cases h : m.digit = true
    · rw [if_pos h, if_pos h]; rfl
    · rw [if_neg h, if_neg h]; exact pushS_ghost _ _ _
  rw [if_neg h1, if_neg h1]
  by_cases h2 : c = 32 ∨ c = 10
  · rw [if_pos h2, if_pos h2]; rfl
  rw [if_neg h2, if_neg h2]
  by_cases h3 : isBin c = true
  · rw [if_pos h3, if_pos h3, popS_ghost]
    refine bind_ghost _ _ _ _ _ fun q => ?_
    dsimp only
    rw [popS_ghost]
    refine bind_ghost _ _ _ _ _ fun q2 => ?_
    dsimp only
    cases binS c q2.1 q.1 with
    | none => rfl
    | some v => exact pushS_ghost _ _ _
  rw [if_neg h3, if_neg h3]
  by_cases h4 : c = 64
  · rw [if_pos h4, if_pos h4, addrS_ghost]
    exact bind_ghost _ _ _ _ _ fun q => pushS_ghost _ _ _
  rw [if_neg h4, if_neg h4]
  by_cases h5 : c = 33
  · rw [if_pos h5, if_pos h5, addrS_ghost]
    refine bind_ghost _ _ _ _ _ fun q => ?_
    dsimp only
    rw [popS_ghost]
    exact bind_ghost _ _ _ _ _ fun q2 => rfl
  rw [if_neg h5, if_neg h5]
  by_cases h6 : c = 63
  · rw [if_pos h6, if_pos h6, popS_ghost]
    refine bind_ghost _ _ _ _ _ fun q => ?_
    dsimp only
    rw [popS_ghost]
    refine bind_ghost _ _ _ _ _ fun q2 => ?_
    dsimp only
    by_cases h : q2.1 = 0
    · rw [if_pos h, if_pos h]; rfl
    · rw [if_neg h, if_neg h]; rfl
  rw [if_neg h6, if_neg h6]
  by_cases h7 : c = 58
  · rw [if_pos h7, if_pos h7, popS_ghost]
    refine bind_ghost _ _ _ _ _ fun q => ?_
    dsimp only
    rw [show (q.2.ghost r).calls = q.2.calls from rfl]
    by_cases h : q.2.calls.length < 64
    · rw [if_pos h, if_pos h]; rfl
    · rw [if_neg h, if_neg h]; rfl
  rw [if_neg h7, if_neg h7]
  by_cases h8 : c = 59
  · rw [if_pos h8, if_pos h8, show (m.ghost r).calls = m.calls from rfl]
    cases m.calls.getLast? <;> rfl
  rw [if_neg h8, if_neg h8]
  by_cases h9 : c = 44
  · rw [if_pos h9, if_pos h9, show (m.ghost r).input = m.input from rfl]
    cases m.input with
    | nil => exact pushS_ghost _ _ _
    | cons x l => exact pushS_ghost x { m with input := l } r
  rw [if_neg h9, if_neg h9]
  by_cases h10 : c = 46
  · rw [if_pos h10, if_pos h10, popS_ghost]
    exact bind_ghost _ _ _ _ _ fun q => rfl
  rw [if_neg h10, if_neg h10]
  rfl
theorem runS_ghost (r : Option (Nat × Int)) : ∀ (k n : Nat) (m : MS), runS k n (m.ghost r) = runS k n m
  | 0, _, _ => rfl
  | k + 1, n, m => by
    unfold runS
    rw [show (m.ghost r).pc = m.pc from rfl, show (m.ghost r).mem = m.mem from rfl, show (m.ghost r).out = m.out from rfl]
    by_cases h1 : 262144 ≤ m.pc
    · rw [if_pos h1, if_pos h1]
    rw [if_neg h1, if_neg h1]
    by_cases h2 : m.mem m.pc = 36
    · rw [if_pos h2, if_pos h2]
    rw [if_neg h2, if_neg h2]
    change (match stepS (MS.ghost { m with pc := m.pc + 1 } r) (m.mem m.pc) with | none => (m.out, 12, n + 1) | some m' => runS k (n + 1) { m' with digit := digN (m.mem m.pc) }) = _
    rw [stepS_ghost]
    cases stepS { m with pc := m.pc + 1 } (m.mem m.pc) with
    | none => rfl
    | some m' => exact runS_ghost r k (n + 1) { m' with digit := digN (m.mem m.pc) }
theorem step_res {m m' : MS} {c : Nat} (h : stepS m c = some m') : m'.res = m.res := by
  have e := stepS_ghost m c m.res
  rw [show m.ghost m.res = m from rfl, h] at e
  have e2 : m' = m'.ghost m.res := Option.some.inj e
  have e3 : m'.res = (m'.ghost m.res).res := congrArg MS.res e2
  exact e3
end Go.Proofs.YtimegcnpembhkaaDoor
