/- The library's contracts as the assembler uses them: values by lists of bytes; the world grows. -/
import Derived.Test.YtimegcnpembhkaaDoorBuild
import Derived.Test.YtimegcnpembhkaaDoorAsmSpec
import Derived.Test.YtimegcnpembhkaaDoorBA
import Derived.Shelf.Strings.SlTrimAscii
import Derived.Lib.SmallJoins
import Derived.Lib.AppendIntMem
import Derived.Lib.Hide
namespace Go.Proofs.YtimegcnpembhkaaDoor
open Go.RowKit
open Go.Lib hiding intOf
set_option linter.unusedVariables false

/-- the library's variables as the walks read them -/
structure Env (w : World) : Prop where
  maxLen : ∃ m : Int, w.cell? ⟨0, 0, none⟩ = some (.int .i64 m)
  pow : Lib.TabIs Tryd.prog w "internal/strconv.uint64pow10" .u64 Lib.pow10Tab
theorem Env.ext {w w' : World} (h : Env w) (hx : Ext w w') : Env w' :=
  ⟨let ⟨m, hm⟩ := h.maxLen; ⟨m, hx.cell hm⟩, Joins.tab_stays (g := 3) (by kernel_rfl) h.pow hx (Nat.le_refl _)⟩

theorem ret_bool {a b : Bool} (h : a = b) : Ending.returned (.bool a) = .returned (.bool b) := by rw [h]

/-- a block of cells that is known whole -/
def Blk (w : World) (b : Nat) (T : TypeId) (xs : List Value) : Prop := w.heap[b]? = some (.cells xs.toArray T (0, 0))
theorem Blk.lt {w : World} {b : Nat} {T : TypeId} {xs : List Value} (h : Blk w b T xs) : b < w.heap.size := by
  unfold Blk at h
  rcases Nat.lt_or_ge b w.heap.size with h' | h'
  · exact h'
  · simp [Array.getElem?_eq_none h'] at h
theorem Blk.cell {w : World} {b : Nat} {T : TypeId} {xs : List Value} (h : Blk w b T xs) {i : Nat} {v : Value} (hv : xs[i]? = some v) : w.cell? ⟨b, i, none⟩ = some v := by
  unfold Blk at h
  simp [World.cell?, h, hv]
theorem Blk.ext {w w' : World} {b : Nat} {T : TypeId} {xs : List Value} (h : Blk w b T xs) (hx : Ext w w') : Blk w' b T xs := by
  unfold Blk
  rw [hx.block b h.lt]
  exact h
theorem Blk.alloc {w : World} {b : Nat} {T : TypeId} {xs : List Value} (h : Blk w b T xs) (o : Obj) : Blk (w.alloc o) b T xs := h.ext ((Ext.refl w).alloc o)
/-- a write into an owned row of another type leaves it -/
theorem Blk.grown {w w' : World} {b : Nat} {T : TypeId} {xs : List Value} (h : Blk w b T xs) {base : Nat} {e : TypeId} {size n : Nat} {v : Value} {ys : List Value} (hown : w.ownsRow base e size v n ys) (hT : T ≠ e) (hg : w.grownBy w' v.ownBlock) : Blk w' b T xs := by
  unfold Blk
  rw [hg.block b h.lt ?_]
  · exact h
  · rcases hown.2 with ⟨rfl, _⟩ | ⟨g, cap, cur, rfl, _, hg', _⟩
    · simp [Value.ownBlock]
    · intro e'
      simp only [Value.ownBlock, Option.some.injEq] at e'
      subst e'
      unfold Blk at h
      rw [hg'] at h
      simp only [Option.some.injEq, Obj.cells.injEq] at h
      exact hT h.2.1.symm

/-- strings.Split at one byte -/
theorem split_any (c : UInt8) (s : ByteArray) (w : World) (hs : s.size < 4294967281) (hE : Env w) :
    Calls Tryd.prog 52 #[.string s, .string ⟨#[c]⟩] w fun e w' => e = .returned (.slice (some ⟨w.heap.size, 0, none⟩) (cutAt c [] s.data.toList).length (cutAt c [] s.data.toList).length) ∧ Blk w' w.heap.size 9 ((cutAt c [] s.data.toList).map fun l => .string (BA l)) ∧ Ext w w' := by
  obtain ⟨m, hm⟩ := hE.maxLen
  refine (Tryd.strings_Split s ⟨#[c]⟩ m w hs hm (Nat.le_refl 1)).mono ?_
  rintro e w' ⟨rfl, rfl⟩
  have hd := splitB_cutAt s c
  have hlen : (splitB ⟨#[c]⟩ 0 (countB s ⟨#[c]⟩) s).length = countB s ⟨#[c]⟩ + 1 := splitB_all ⟨#[c]⟩ (Nat.le_refl 1) 0 _ s rfl
  have hl2 := congrArg List.length hd
  rw [List.length_map, hlen] at hl2
  rw [← hl2]
  refine ⟨rfl, ?_, (Ext.refl _).alloc _⟩
  have hmap : (splitB ⟨#[c]⟩ 0 (countB s ⟨#[c]⟩) s).map Value.string = (cutAt c [] s.data.toList).map fun l => .string (BA l) := by
    rw [← hd, List.map_map]
    rfl
  rw [hmap]
  show (w.heap.push _)[w.heap.size]? = _
  simp

theorem cut_takeWhile (c : UInt8) (l : Bytes) : (Lib.cut l [c]).1 = l.takeWhile (· ≠ c) := by
  have key : ∀ l : Bytes, (if index l [c] = -1 then l else l.take (index l [c]).toNat) = l.takeWhile (· ≠ c) := by
    intro l
    induction l with
    | nil => simp
    | cons b l ih =>
      by_cases h : b = c
      · subst h
        rw [index_cons_eq, if_neg (by decide)]
        simp
      · rw [index_cons_ne b c l h, List.takeWhile_cons, ← ih]
        have hg := index_ge l [c]
        by_cases h1 : index l [c] = -1
        · rw [if_pos (by rw [if_pos h1]), if_pos h1]
          simp [h]
        · rw [if_neg (by rw [if_neg h1]; omega), if_neg h1, if_neg h1]
          have h2 : (index l [c] + 1).toNat = (index l [c]).toNat + 1 := by omega
          rw [h2]
          simp [h]
  rw [← key l]
  unfold Lib.cut
  have hg := index_ge l [c]
  by_cases h1 : index l [c] = -1
  · rw [if_pos h1]
    simp [h1]
  · rw [if_neg h1, if_pos (by omega)]

/-- strings.Cut at one byte: what stands before it -/
theorem cut_any (c : UInt8) (s : ByteArray) (w : World) (hs : s.size < 4294967281) (hE : Env w) :
    Calls Tryd.prog 53 #[.string s, .string ⟨#[c]⟩] w fun e w' => ∃ x y, e = .returned (.tuple #[.string (BA (s.data.toList.takeWhile (· ≠ c))), x, y]) ∧ Ext w w' := by
  obtain ⟨m, hm⟩ := hE.maxLen
  refine (Tryd.strings_Cut s ⟨#[c]⟩ m w hs hm).mono ?_
  rintro e w' ⟨rfl, n, rfl⟩
  refine ⟨.string ⟨(Lib.cut s.data.toList [c]).2.1.toArray⟩, .bool (Lib.cut s.data.toList [c]).2.2, ?_, (Ext.refl w).drewN n⟩
  rw [← cut_takeWhile]
  rfl

theorem dw_nil (p : UInt8 → Bool) (l : Bytes) : l.dropWhile p = [] ↔ l.all p = true := by
  induction l with
  | nil => simp
  | cons x l ih =>
    rw [List.dropWhile_cons, List.all_cons]
    cases p x <;> simp [ih]
theorem dw_head (p : UInt8 → Bool) (l : Bytes) (x : UInt8) (xs : Bytes) (h : l.dropWhile p = x :: xs) : p x = false := by
  induction l with
  | nil => simp at h
  | cons y l ih =>
    rw [List.dropWhile_cons] at h
    cases hy : p y
    · rw [hy] at h
      simp at h
      rw [← h.1]; exact hy
    · rw [hy] at h
      exact ih (by simpa using h)
theorem trimS_nil (l cs : Bytes) : trimS l cs = [] ↔ l.all (cs.contains ·) = true := by
  have e : trimS l cs = ((l.reverse.dropWhile (cs.contains ·)).reverse).dropWhile (cs.contains ·) := rfl
  have er : l.all (cs.contains ·) = l.reverse.all (cs.contains ·) := by rw [List.all_reverse]
  rw [e, er]
  generalize l.reverse = m
  rw [dw_nil, List.all_reverse, ← dw_nil, ← dw_nil]
  constructor
  · intro h
    cases hd : m.dropWhile (cs.contains ·) with
    | nil => rfl
    | cons x xs =>
      exfalso
      have h1 := dw_head _ m x xs hd
      rw [hd, dw_nil, List.all_cons, h1] at h
      simp at h
  · intro h
    rw [h]; rfl

/-- strings.Trim: is nothing left -/
theorem trim_any (cs : Bytes) (hc : cs.length < 4294967281) (ha : cs.all (fun b => decide (b.toNat < 128)) = true) (s : ByteArray) (w : World) (hs : s.size ≤ 9223372036854775807) :
    Calls Tryd.prog 21 #[.string s, .string ⟨cs.toArray⟩] w fun e w' => ∃ r : ByteArray, e = .returned (.string r) ∧ (r.toList == []) = s.data.toList.all (cs.contains ·) ∧ Ext w w' := by
  refine (Any.strings_Trim_laid Tryd.lays160 (by kernel_rfl) s ⟨cs.toArray⟩ w hs hc (ascii_of_all ha)).mono ?_
  rintro e w' ⟨rfl, hx⟩
  refine ⟨_, rfl, ?_, hx⟩
  rw [Bool.eq_iff_iff, beq_iff_eq, ← trimS_nil, ByteArray.toList_eq]

/-- strings.CutSuffix, CutPrefix at one byte -/
theorem cutSuffix_any (c : UInt8) (s : ByteArray) (w : World) (hs : s.size ≤ 9223372036854775807) :
    Calls Tryd.prog 86 #[.string s, .string ⟨#[c]⟩] w fun e w' => e = .returned (.tuple #[.string (BA (trimSuffix s.data.toList [c])), .bool (hasSuffix s.data.toList [c])]) ∧ w = w' :=
  (Tryd.strings_CutSuffix s ⟨#[c]⟩ w hs).mono fun e w' ⟨he, hw⟩ => ⟨he, hw.symm⟩
theorem cutPrefix_any (c : UInt8) (s : ByteArray) (w : World) :
    Calls Tryd.prog 88 #[.string s, .string ⟨#[c]⟩] w fun e w' => e = .returned (.tuple #[.string (BA (trimPrefix s.data.toList [c])), .bool (hasPrefix s.data.toList [c])]) ∧ w = w' :=
  (Tryd.strings_CutPrefix s ⟨#[c]⟩ w).mono fun e w' ⟨he, hw⟩ => ⟨he, hw.symm⟩

/-- strconv.Itoa -/
theorem itoa_any (n : Int) (h0 : -9223372036854775808 ≤ n) (h1 : n ≤ 9223372036854775807) (w : World) (hE : Env w) :
    Calls Tryd.prog 89 #[.int .i64 n] w fun e w' => e = .returned (.string (BA (Lib.itoa n))) ∧ Ext w w' := by
  refine (Tryd.strconv_Itoa n h0 h1 w hE.pow).mono ?_
  rintro e w' ⟨rfl, k, os, rfl⟩
  exact ⟨rfl, Lib.below_grow _ _ (Nat.le_refl _) _ _⟩
end Go.Proofs.YtimegcnpembhkaaDoor
