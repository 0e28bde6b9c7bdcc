/- The law BootstrapSteps returns true. (Layer 28) -/
import Derived.Test.YtjmglbppmolipaaGreatDoorBootL2
import Derived.Test.YtjmglbppmolipaaGreatDoorGrowI
import Derived.Deep.DeepCutAuto
namespace Go.Proofs.YtjmglbppmolipaaGreatDoor
open Go.RowKit
open Go.Lib hiding intOf
set_option linter.unusedVariables false
set_option linter.unusedSimpArgs false
attribute [local simp] Slots Slot look Is Oper.looksAt Op.operands Call.operands

theorem popS_out {m m' : MS} {v : Nat} (h : popS m = some (v, m')) : m'.out = m.out := by
  unfold popS at h
  split at h
  · cases h
  · cases h; rfl
theorem pushS_out {m m' : MS} {v : Nat} (h : pushS v m = some m') : m'.out = m.out := by
  unfold pushS at h
  split at h
  · cases h; rfl
  · cases h
theorem addrS_out {m m' : MS} {a : Nat} (h : addrS m = some (a, m')) : m'.out = m.out := by
  unfold addrS at h
  cases hp : popS m with
  | none => rw [hp] at h; cases h
  | some r =>
    obtain ⟨x, m1⟩ := r
    rw [hp] at h
    simp only at h
    split at h
    · cases h; exact popS_out hp
    · cases h
/-- a step adds to the output or leaves it -/
theorem stepS_prefix {m m' : MS} {c : Nat} (h : stepS m c = some m') : m.out <+: m'.out := by
  unfold stepS at h
  split at h
  · split at h
    · cases h; exact List.prefix_refl _
    · rw [pushS_out h]; exact List.prefix_refl _
  split at h
  · cases h; exact List.prefix_refl _
  split at h
  · obtain ⟨⟨y, m1⟩, e1, h⟩ := Option.bind_eq_some_iff.1 h
    obtain ⟨⟨x, m2⟩, e2, h⟩ := Option.bind_eq_some_iff.1 h
    obtain ⟨v, e3, h⟩ := Option.bind_eq_some_iff.1 h
    rw [pushS_out h, popS_out e2, popS_out e1]; exact List.prefix_refl _
  split at h
  · obtain ⟨⟨a, m1⟩, e1, h⟩ := Option.bind_eq_some_iff.1 h
    rw [pushS_out h, addrS_out e1]; exact List.prefix_refl _
  split at h
  · obtain ⟨⟨a, m1⟩, e1, h⟩ := Option.bind_eq_some_iff.1 h
    obtain ⟨⟨v, m2⟩, e2, h⟩ := Option.bind_eq_some_iff.1 h
    cases h
    show m.out <+: m2.out
    rw [popS_out e2, addrS_out e1]; exact List.prefix_refl _
  split at h
  · obtain ⟨⟨t, m1⟩, e1, h⟩ := Option.bind_eq_some_iff.1 h
    obtain ⟨⟨v, m2⟩, e2, h⟩ := Option.bind_eq_some_iff.1 h
    cases h
    have e : (if v = 0 then { m2 with pc := t } else m2).out = m2.out := by split <;> rfl
    show m.out <+: (if v = 0 then { m2 with pc := t } else m2).out
    rw [e, popS_out e2, popS_out e1]; exact List.prefix_refl _
  split at h
  · obtain ⟨⟨t, m1⟩, e1, h⟩ := Option.bind_eq_some_iff.1 h
    dsimp only at h
    split at h
    · cases h
      show m.out <+: m1.out
      rw [popS_out e1]; exact List.prefix_refl _
    · cases h
  split at h
  · split at h
    · cases h
    · cases h; exact List.prefix_refl _
  split at h
  · split at h
    · rw [pushS_out h]; exact List.prefix_refl _
    · rw [pushS_out h]; exact List.prefix_refl _
  split at h
  · obtain ⟨⟨v, m1⟩, e1, h⟩ := Option.bind_eq_some_iff.1 h
    cases h
    show m.out <+: m1.out ++ [_]
    rw [popS_out e1]
    exact List.prefix_append _ _
  · cases h
theorem runS_ends : ∀ (L n : Nat) (m : MS), (runS L n m).2.1 ≠ 13 → n < (runS L n m).2.2 ∧ (runS L n m).2.2 ≤ n + L ∧ runS ((runS L n m).2.2 - n) n m = runS L n m ∧
    ∀ j, j < (runS L n m).2.2 - n → (runS j n m).2 = (13, n + j) ∧ (runS j n m).1 <+: (runS L n m).1
  | 0, n, m, h => absurd rfl h
  | L + 1, n, m, h => by
    by_cases h1 : 262144 ≤ m.pc
    · have e : ∀ L, runS (L + 1) n m = (m.out, 12, n + 1) := fun L => by unfold runS; rw [if_pos h1]
      rw [e L]
      refine ⟨Nat.lt_succ_self n, by show n + 1 ≤ _; omega, ?_, fun j hj => ?_⟩
      · show runS (n + 1 - n) n m = _
        rw [show n + 1 - n = 0 + 1 by omega, e 0]
      · have hj : j < n + 1 - n := hj
        obtain rfl : j = 0 := by omega
        exact ⟨rfl, List.prefix_refl _⟩
    by_cases h2 : m.mem m.pc = 36
    · have e : ∀ L, runS (L + 1) n m = (m.out, 0, n + 1) := fun L => by unfold runS; rw [if_neg h1, if_pos h2]
      rw [e L]
      refine ⟨Nat.lt_succ_self n, by show n + 1 ≤ _; omega, ?_, fun j hj => ?_⟩
      · show runS (n + 1 - n) n m = _
        rw [show n + 1 - n = 0 + 1 by omega, e 0]
      · have hj : j < n + 1 - n := hj
        obtain rfl : j = 0 := by omega
        exact ⟨rfl, List.prefix_refl _⟩
    cases hs : stepS { m with pc := m.pc + 1 } (m.mem m.pc) with
    | none =>
      have e : ∀ L, runS (L + 1) n m = (m.out, 12, n + 1) := fun L => by unfold runS; rw [if_neg h1, if_neg h2, hs]
      rw [e L]
      refine ⟨Nat.lt_succ_self n, by show n + 1 ≤ _; omega, ?_, fun j hj => ?_⟩
      · show runS (n + 1 - n) n m = _
        rw [show n + 1 - n = 0 + 1 by omega, e 0]
      · have hj : j < n + 1 - n := hj
        obtain rfl : j = 0 := by omega
        exact ⟨rfl, List.prefix_refl _⟩
    | some m' =>
      have e : ∀ L, runS (L + 1) n m = runS L (n + 1) { m' with digit := isDig (m.mem m.pc) } := fun L => by conv => lhs; unfold runS; rw [if_neg h1, if_neg h2, hs]
      have hp : ({ m with pc := m.pc + 1 } : MS).out <+: m'.out := stepS_prefix hs
      rw [e L] at h ⊢
      obtain ⟨k1, k2, k3, k4⟩ := runS_ends L (n + 1) { m' with digit := isDig (m.mem m.pc) } h
      generalize hR : runS L (n + 1) { m' with digit := isDig (m.mem m.pc) } = R at *
      refine ⟨by omega, by omega, ?_, fun j hj => ?_⟩
      · rw [show R.2.2 - n = (R.2.2 - (n + 1)) + 1 by omega, e]
        exact k3
      · match j with
        | 0 =>
          have := (k4 0 (by omega)).2
          exact ⟨rfl, hp.trans this⟩
        | j + 1 =>
          rw [e]
          obtain ⟨q1, q2⟩ := k4 j (by omega)
          exact ⟨by rw [q1]; congr 1; omega, q2⟩
/-- with exactly the steps that it takes, and with one less -/
theorem runO_steps (at_ : Nat) (l : List UInt8) (start : Nat) (input : List Nat) (h : (runO at_ l start input 50000).2.1 = 0 ∨ (runO at_ l start input 50000).2.1 = 12) :
    runO at_ l start input (runO at_ l start input 50000).2.2 = runO at_ l start input 50000 ∧ ∃ out, runO at_ l start input ((runO at_ l start input 50000).2.2 - 1) = (out, 13, (runO at_ l start input 50000).2.2 - 1) ∧ out <+: (runO at_ l start input 50000).1 ∧ 1 ≤ (runO at_ l start input 50000).2.2 ∧ (runO at_ l start input 50000).2.2 ≤ 50000 := by
  have e : runO at_ l start input 50000 = ((runS 50000 0 (m0 at_ l start input)).1, (runS 50000 0 (m0 at_ l start input)).2.1, ((runS 50000 0 (m0 at_ l start input)).2.2 : Int)) := by
    unfold runO
    rw [if_neg (by decide), if_neg (by decide)]
    rfl
  rw [e] at h ⊢
  obtain ⟨k1, k2, k3, k4⟩ := runS_ends 50000 0 (m0 at_ l start input) (by rcases h with h | h <;> rw [show (runS 50000 0 (m0 at_ l start input)).2.1 = _ from h] <;> decide)
  generalize hR : runS 50000 0 (m0 at_ l start input) = R at *
  obtain ⟨o, er, k⟩ := R
  simp only at h k1 k2 k3 k4 ⊢
  rw [Nat.sub_zero] at k3
  constructor
  · unfold runO
    rw [if_neg (by omega), if_neg (by omega), Int.toNat_natCast, k3]
  · by_cases hk : k = 1
    · subst hk
      refine ⟨[], ?_, List.nil_prefix, by omega, by omega⟩
      unfold runO
      rw [if_neg (by decide), if_pos (by decide)]
      rfl
    · obtain ⟨q1, q2⟩ := k4 (k - 1) (by omega)
      refine ⟨(runS (k - 1) 0 (m0 at_ l start input)).1, ?_, q2, by omega, by omega⟩
      unfold runO
      rw [if_neg (by omega), if_neg (by omega), show ((k : Int) - 1).toNat = k - 1 by omega, q1]
      simp only [Nat.zero_add]
      congr 2
      omega
theorem loadA_err (L : List Pc) (hv : ∀ y ∈ L, y.total ≠ 0) : (loadA L).2.2 = 0 ∨ (loadA L).2.2 = 9 ∨ (loadA L).2.2 = 19 ∨ (loadA L).2.2 = 20 := by
  by_cases hc : Cons L
  · unfold loadA loadS
    repeat' split
    all_goals simp
  · rw [ld_bad hv hc]; simp
theorem bootO_steps (rows : List ByteArray) (arch : Nat) (h : (bootO rows arch 50000).2.1 = 0 ∨ (bootO rows arch 50000).2.1 = 12) :
    bootO rows arch (bootO rows arch 50000).2.2 = bootO rows arch 50000 ∧ ∃ out, bootO rows arch ((bootO rows arch 50000).2.2 - 1) = (out, 13, (bootO rows arch 50000).2.2 - 1) ∧ out <+: (bootO rows arch 50000).1 ∧ 1 ≤ (bootO rows arch 50000).2.2 ∧ (bootO rows arch 50000).2.2 ≤ 50000 := by
  have he := loadA_err (framesL rows arch) (fun y hy => by have := (framesL_sizes _ _ y hy).1; omega)
  unfold bootO at h ⊢
  generalize loadA (framesL rows arch) = Q at *
  by_cases h0 : Q.2.2 = 0
  · rw [if_neg (by simpa using h0)] at h
    simp only [if_neg (show ¬ Q.2.2 ≠ 0 by simpa using h0)]
    exact runO_steps 10000 Q.1 10000 (inputL rows arch) h
  · rw [if_pos h0] at h
    simp only at h
    omega
theorem framesP_small (s : ByteArray) (arch : Nat) (h : s.size ≤ 767) : framesP arch s = [] := by
  unfold framesP
  rw [show s.size - 767 = 0 by omega]
  rfl
theorem framesL_small (rows : List ByteArray) (arch : Nat) (h : ∀ s ∈ rows, s.size ≤ 300) : framesL rows arch = [] := by
  unfold framesL
  rw [List.flatMap_eq_nil_iff]
  exact fun s hs => framesP_small s arch (by have := h s hs; omega)
theorem load_len (s : ByteArray) (arch : Nat) (rows : List ByteArray) (ha : arch < 4294967296) (hs : s.size ≤ 1000) (hp : prB s.data.toList = true) (h : ∀ x ∈ rows, x.size ≤ 300) : (loadA (framesL (stripsL (piecesP s arch) ++ rows) arch)).1.length ≤ 2000 := by
  rw [framesL_append, framesL_small rows arch h, List.append_nil]
  by_cases hT : 1 ≤ totalN s.size
  · rw [load_strips s arch ha (by omega) hp hT]
    show (fullB s).size ≤ _
    rw [full_size]
    unfold totalN; omega
  · rw [framesL_strips _ _ (pieces_fit s arch ha (by omega) hp)]
    have : piecesP s arch = [] := by
      unfold piecesP
      rw [show totalN s.size = 0 by omega]; rfl
    rw [this, ld_nil]
    exact Nat.zero_le _
theorem prefix_take {a b : List UInt8} (h : a <+: b) : b.take a.length = a := by
  obtain ⟨t, rfl⟩ := h
  simp
theorem three {w : World} {b : Nat} {T : TypeId} {x0 x1 x2 : Value} (h : Blk w b T [x0, x1, x2]) :
    (w.cell? ⟨b, 0, none⟩ = some x0 ∧ w.cell? ⟨b, 1, none⟩ = some x1 ∧ w.cell? ⟨b, 2, none⟩ = some x2) ∧ (∀ i, w.frozen? ⟨b, i, none⟩ = false) ∧ b < w.heap.size :=
  ⟨⟨h.cell rfl, h.cell rfl, h.cell rfl⟩, fun i => blk_frozen h i, h.lt⟩
theorem slice_prefix {x1 out : List UInt8} (h : out <+: x1) (W : World) : (Instr.slice 9 (.string (BA x1)) none (some (.int .i64 ((BA out).size : Int))) none).run Tryz.prog W = .ok (.string (BA out)) W := by
  have h1 := h.length_le
  have e : (BA x1).extract 0 (BA out).size = BA out := by
    rw [ext_BA, BA_data, BA_size, List.drop_zero, Nat.sub_zero, prefix_take h]
  rw [BA_size] at e
  simp [Instr.slice, Instr.sliceBounds, Instr.sliceBound, asIntOf, run_underlying (Tryz.underlying9), BA_size, h1]
  exact e
/-- what has come up of region 12: the two outcomes' cells -/
def BoxJ (W6 : World) (v1 v2 v3 : Value) (al st : Bool) (p : Value) (w : World) : Prop :=
  (st = true → al = true) ∧ (al = true → ∃ g x y z, p = .pointer (some ⟨g, 0, none⟩) ∧ W6.heap.size ≤ g ∧ Blk w g 28 [x, y, z] ∧ (st = true → x = v1 ∧ y = v2 ∧ z = v3))
theorem BoxJ.ext {W6 : World} {v1 v2 v3 : Value} {al st : Bool} {p : Value} {w w' : World} (h : BoxJ W6 v1 v2 v3 al st p w) (hx : Ext w w') : BoxJ W6 v1 v2 v3 al st p w' := by
  refine ⟨h.1, fun hl => ?_⟩
  obtain ⟨g, x, y, z, q1, q2, q3, q4⟩ := h.2 hl
  exact ⟨g, x, y, z, q1, q2, q3.ext hx, q4⟩
theorem BoxJ.set {W6 : World} {v1 v2 v3 : Value} {al st : Bool} {p : Value} {w : World} (h : BoxJ W6 v1 v2 v3 al st p w) {k j : Nat} (hk : al = true → p ≠ .pointer (some ⟨k, 0, none⟩)) (v : Value) : BoxJ W6 v1 v2 v3 al st p (w.setCell ⟨k, j, none⟩ v) := by
  refine ⟨h.1, fun hl => ?_⟩
  obtain ⟨g, x, y, z, q1, q2, q3, q4⟩ := h.2 hl
  exact ⟨g, x, y, z, q1, q2, q3.set_ne (fun e => hk hl (by rw [q1, e])), q4⟩
theorem BoxJ.new {W6 w : World} (v1 v2 v3 : Value) {al : Bool} {st : Bool} {p : Value} (h : BoxJ W6 v1 v2 v3 al st p w) (hl : al = false) (hx : Ext W6 w) (x y z : Value) : BoxJ W6 v1 v2 v3 true st (.pointer (some ⟨w.heap.size, 0, none⟩)) (w.alloc (.cells #[x, y, z] 28)) := by
  refine ⟨fun _ => rfl, fun _ => ⟨w.heap.size, x, y, z, rfl, hx.size, heap_alloc_new w _, fun hs => ?_⟩⟩
  rw [h.1 hs] at hl
  cases hl
def SJ (W6 : World) (v1 v2 v3 z1 z2 z3 : Value) (L : Nat → Bool) (u : Nat → Value) (w : World) : Prop :=
  Ext W6 w ∧ BoxJ W6 v1 v2 v3 (L 11) (L 13) (u 11) w ∧ BoxJ W6 z1 z2 z3 (L 12) (L 14) (u 12) w ∧ (L 11 = true → L 12 = true → u 11 ≠ u 12)
section
variable {W6 : World} {v1 v2 v3 z1 z2 z3 : Value} {L L' : Nat → Bool} {u u' : Nat → Value} {w w' : World}
theorem SJ.grow (h : SJ W6 v1 v2 v3 z1 z2 z3 L u w) (hx : Ext w w') (h1 : L' 11 = L 11) (h2 : L' 12 = L 12) (h3 : L' 13 = L 13) (h4 : L' 14 = L 14) (h5 : u' 11 = u 11) (h6 : u' 12 = u 12) : SJ W6 v1 v2 v3 z1 z2 z3 L' u' w' := by
  obtain ⟨k0, k1, k2, k3⟩ := h
  unfold SJ
  rw [h1, h2, h3, h4, h5, h6]
  exact ⟨k0.trans hx, k1.ext hx, k2.ext hx, k3⟩
theorem SJ.lt12 (h : SJ W6 v1 v2 v3 z1 z2 z3 L u w) (hl : L 12 = true) : u 12 ≠ .pointer (some ⟨w.heap.size, 0, none⟩) := by
  obtain ⟨g, x, y, z, q1, q2, q3, q4⟩ := h.2.2.1.2 hl
  intro e
  rw [q1] at e
  have hg := q3.lt
  have : g = w.heap.size := congrArg (fun v => match v with | .pointer (some a) => a.block | _ => 0) e
  omega
theorem SJ.lt11 (h : SJ W6 v1 v2 v3 z1 z2 z3 L u w) (hl : L 11 = true) : u 11 ≠ .pointer (some ⟨w.heap.size, 0, none⟩) := by
  obtain ⟨g, x, y, z, q1, q2, q3, q4⟩ := h.2.1.2 hl
  intro e
  rw [q1] at e
  have hg := q3.lt
  have : g = w.heap.size := congrArg (fun v => match v with | .pointer (some a) => a.block | _ => 0) e
  omega
theorem SJ.alloc11 (h : SJ W6 v1 v2 v3 z1 z2 z3 L u w) (hl : L 11 = false) (x y z : Value) (h1 : L' 11 = true) (h2 : L' 12 = L 12) (h3 : L' 13 = L 13) (h4 : L' 14 = L 14) (h5 : u' 11 = .pointer (some ⟨w.heap.size, 0, none⟩)) (h6 : u' 12 = u 12) : SJ W6 v1 v2 v3 z1 z2 z3 L' u' (w.alloc (.cells #[x, y, z] 28)) := by
  have hlt := h.lt12
  obtain ⟨k0, k1, k2, k3⟩ := h
  unfold SJ
  rw [h1, h2, h3, h4, h5, h6]
  exact ⟨k0.alloc _, k1.new _ _ _ hl k0 _ _ _, k2.ext ((Ext.refl w).alloc _), fun _ hl2 e => hlt hl2 e.symm⟩
theorem SJ.alloc12 (h : SJ W6 v1 v2 v3 z1 z2 z3 L u w) (hl : L 12 = false) (x y z : Value) (h1 : L' 11 = L 11) (h2 : L' 12 = true) (h3 : L' 13 = L 13) (h4 : L' 14 = L 14) (h5 : u' 11 = u 11) (h6 : u' 12 = .pointer (some ⟨w.heap.size, 0, none⟩)) : SJ W6 v1 v2 v3 z1 z2 z3 L' u' (w.alloc (.cells #[x, y, z] 28)) := by
  have hlt := h.lt11
  obtain ⟨k0, k1, k2, k3⟩ := h
  unfold SJ
  rw [h1, h2, h3, h4, h5, h6]
  exact ⟨k0.alloc _, k1.ext ((Ext.refl w).alloc _), k2.new _ _ _ hl k0 _ _ _, fun hl1 _ => hlt hl1⟩
theorem SJ.store13 (h : SJ W6 v1 v2 v3 z1 z2 z3 L u w) (hl : L 11 = true) (hl2 : L 12 = true) {g : Nat} (hg : u 11 = .pointer (some ⟨g, 0, none⟩)) (h1 : L' 11 = true) (h2 : L' 12 = L 12) (h4 : L' 14 = L 14) (h5 : u' 11 = u 11) (h6 : u' 12 = u 12) :
    SJ W6 v1 v2 v3 z1 z2 z3 L' u' (((w.setCell ⟨g, 0, none⟩ v1).setCell ⟨g, 1, none⟩ v2).setCell ⟨g, 2, none⟩ v3) := by
  obtain ⟨k0, k1, k2, k3⟩ := h
  obtain ⟨g', x, y, z, q1, q2, q3, q4⟩ := k1.2 hl
  have : g = g' := congrArg (fun v => match v with | .pointer (some a) => a.block | _ => 0) (hg.symm.trans q1)
  subst this
  have hne : L 12 = true → u 12 ≠ .pointer (some ⟨g, 0, none⟩) := fun h2 e => k3 hl h2 (by rw [e, hg])
  unfold SJ
  rw [h1, h2, h4, h5, h6]
  refine ⟨((k0.set q2 _).set q2 _).set q2 _, ⟨fun _ => rfl, fun _ => ⟨g, _, _, _, hg, q2, ?_, fun _ => ⟨rfl, rfl, rfl⟩⟩⟩, ((k2.set hne _).set hne _).set hne _, fun _ => k3 hl⟩
  exact blk_set (blk_set (blk_set q3 0 v1) 1 v2) 2 v3
theorem SJ.store14 (h : SJ W6 v1 v2 v3 z1 z2 z3 L u w) (hl : L 11 = true) (hl2 : L 12 = true) {g : Nat} (hg : u 12 = .pointer (some ⟨g, 0, none⟩)) (h1 : L' 11 = L 11) (h2 : L' 12 = true) (h4 : L' 13 = L 13) (h5 : u' 11 = u 11) (h6 : u' 12 = u 12) :
    SJ W6 v1 v2 v3 z1 z2 z3 L' u' (((w.setCell ⟨g, 0, none⟩ z1).setCell ⟨g, 1, none⟩ z2).setCell ⟨g, 2, none⟩ z3) := by
  obtain ⟨k0, k1, k2, k3⟩ := h
  obtain ⟨g', x, y, z, q1, q2, q3, q4⟩ := k2.2 hl2
  have : g = g' := congrArg (fun v => match v with | .pointer (some a) => a.block | _ => 0) (hg.symm.trans q1)
  subst this
  have hne : L 11 = true → u 11 ≠ .pointer (some ⟨g, 0, none⟩) := fun h2 e => k3 h2 hl2 (by rw [e, hg])
  unfold SJ
  rw [h1, h2, h4, h5, h6]
  refine ⟨((k0.set q2 _).set q2 _).set q2 _, ((k1.set hne _).set hne _).set hne _, ⟨fun _ => rfl, fun _ => ⟨g, _, _, _, hg, q2, ?_, fun _ => ⟨rfl, rfl, rfl⟩⟩⟩, fun hh _ => k3 hh hl2⟩
  exact blk_set (blk_set (blk_set q3 0 z1) 1 z2) 2 z3
end
set_option maxRecDepth 100000 in
set_option maxHeartbeats 6400000 in
theorem lawSteps_any (s : ByteArray) (A0 : Option Addr) (n0 c0 : Nat) (rows0 : List ByteArray) (arch : Nat) (w : World) (hs : s.size ≤ maxLen) (hl0 : Lst w A0 n0 c0 (rows0.map Value.string)) (hz0 : ∀ x ∈ rows0, x.size ≤ maxLen) (hA0 : A0 = none → n0 = 0 ∧ c0 = 0) (ha : arch < 4294967296) (hE : Env w) :
    Calls Tryz.prog 7 #[.string s, .slice A0 n0 c0, .int .u32 arch] w fun e w' => e = .returned (.bool true) ∧ Ext w w' := by
  have HA := Lib.hid (fun W (h : Env W) => alive_any W h)
  have HE := Lib.hid hE
  have hsm := fun W (h : Ext w W) => small_any s A0 n0 c0 rows0 0 W (hl0.ext h) hz0 hs
  have hmx0 := hl0.max
  have hrm0 := hl0.room
  unfold maxLen at hmx0
  cases hb : smallB s.size rows0 0 with
  | false =>
    rw [hb] at hsm
    have HSM := Lib.hid hsm
    clear hsm hb hE
    go_enter Tryz.func7, Tryz.ntmps7
    go_wp2_with fail
    refine (HA.out _ HE.out).mono ?_
    rintro e w1 ⟨rfl, hx1⟩
    go_wp2_with fail
    refine (HSM.out _ hx1).mono ?_
    rintro e w2 ⟨rfl, rfl⟩
    go_wp2_with fail
    go_ret
    exact ⟨rfl, hx1⟩
  | true =>
  rw [hb] at hsm
  obtain ⟨b1, b2, -, b4⟩ := smallB_spec hb
  have HSM := Lib.hid hsm
  have hS := fun W (h : Env W) => strips_any s arch W hs ha h
  have hn06 : n0 ≤ 6 := by rw [hl0.len, List.length_map]; exact b2
  rcases splitA_cases s arch with ⟨e1, e2⟩ | ⟨h40, hp, hsa⟩
  · rw [e1] at hS
    have hE2 : ((splitA s arch).2 != 0) = true := by simpa using e2
    have HS := Lib.hid hS
    generalize (splitA s arch).2 = E at *
    clear hS e1 e2 hE hsm hb b4
    go_enter Tryz.func7, Tryz.ntmps7
    go_wp2_with fail
    refine (HA.out _ HE.out).mono ?_
    rintro e w1 ⟨rfl, hx1⟩
    go_wp2_with fail
    refine (HSM.out _ hx1).mono ?_
    rintro e w1' ⟨rfl, rfl⟩
    go_wp2_with fail
    refine (HS.out _ (HE.out.ext hx1)).mono ?_
    rintro e w2 ⟨v, rfl, hown, hx2⟩
    have hxx := hx1.trans hx2
    clear hown hx1 hx2
    go_wp2_with fail
    go_ret
    exact ⟨rfl, hxx⟩
  · rw [hsa] at hS
    have hlen := stripsL_len (piecesP s arch)
    rw [pieces_len] at hlen
    have hzz := stripsL_sizes s arch ha h40 hp
    have hld := load_len s arch rows0 ha b1 hp b4
    obtain ⟨n, hn⟩ : ∃ n, n = (totalN s.size + 3) / 4 := ⟨_, rfl⟩
    have hn5 : n ≤ 5 := by rw [hn]; unfold totalN; omega
    rw [← hn] at hlen
    simp only at hS
    generalize stripsL (piecesP s arch) = rows at *
    have hall : ∀ x ∈ rows ++ rows0, x.size ≤ 3072 := fun x hx => by
      rcases List.mem_append.1 hx with hx | hx
      · exact hzz x hx
      · have := b4 x hx; omega
    have hln : (rows ++ rows0).length = n + n0 := by rw [List.length_append, hlen, hl0.len, List.length_map]
    have hin := inputL_bound _ arch 3072 hall
    have hfr := framesL_bound _ arch 3072 hall
    rw [hln] at hin hfr
    have HB := Lib.hid (fun W (h : Ext w W) B c (hl : Lst W B (n + n0) c ((rows ++ rows0).map Value.string)) k => boot_any B (n + n0) c arch (rows ++ rows0) k W (hE.ext h) ha hl (fun x hx => by have := hall x hx; omega) (by omega) (by omega) (by omega))
    have hst := bootO_steps (rows ++ rows0) arch
    obtain ⟨X, hX⟩ : ∃ X, X = bootO (rows ++ rows0) arch 50000 := ⟨_, rfl⟩
    rw [← hX] at hst
    have HX := Lib.hid hX
    have HS := Lib.hid hS
    have HLEN := Lib.hid hlen
    have HL0 := Lib.hid (fun W (h : Ext w W) => hl0.ext h)
    have HST := Lib.hid hst
    obtain ⟨x1, x2, x3⟩ := X
    clear hS hsa hlen hzz hn hE hsm hb b4 hld hall hln hin hfr hst hX hp
    go_enter Tryz.func7, Tryz.ntmps7
    go_wp2_with fail
    refine (HA.out _ HE.out).mono ?_
    rintro e w1 ⟨rfl, hx1⟩
    go_wp2_with fail
    refine (HSM.out _ hx1).mono ?_
    rintro e w1' ⟨rfl, rfl⟩
    go_wp2_with fail
    refine (HS.out _ (HE.out.ext hx1)).mono ?_
    rintro e w2 ⟨v, rfl, hown, hx2⟩
    obtain ⟨A, c, rfl, hl⟩ := Lst.of_own (show w2.ownsRow w1.heap.size 9 1 v n (rows.map Value.string) from by have h := hown; rw [HLEN.out] at h; exact h)
    have hAn : A = none → n = 0 ∧ c = 0 := by
      rcases hown.2 with ⟨h, h2⟩ | ⟨g, cap, cur, h, _⟩
      · cases h
        rw [HLEN.out] at h2
        exact fun _ => ⟨h2, rfl⟩
      · cases h
        exact fun h => by cases h
    have hxx := hx1.trans hx2
    have hr := hl.room
    have hm := hl.max
    unfold maxLen at hm
    have HL := Lib.hid hl
    have HAn := Lib.hid hAn
    have HA0 := Lib.hid hA0
    clear hown hl hx1 hx2 hAn hA0
    go_wp2_with (at_builtin; refine wpList_append_lst (by rfl) (.tmp 27) (.tmp 28) rfl w2.heap.size _ 0 [] rfl (own_empty w2 w2.heap.size _ 1 (Nat.le_refl _)) A n c rows rfl HAn.out ?k2 ?k3 ?k4 ?_)
    case k2 => exact HL.out.ext ((Ext.refl w2).alloc _)
    case k3 => omega
    case k4 => simp
    intro va wa howa hgra
    have hx2a : Ext w2 wa := Ext.grown ((Ext.refl w2).alloc (.cells #[] 9)) hgra (fun k e => by cases e; exact Nat.le_refl _)
    have HOa : Hid (wa.ownsRow w2.heap.size 9 1 va n (rows.map Value.string)) := by
      have h := howa
      first | exact h | (rw [Nat.zero_add, List.nil_append] at h; exact h)
    clear howa hgra
    go_wp2_with (at_builtin; refine wpList_append_lst (by rfl) (.tmp 29) (.tmp 30) rfl w2.heap.size va n _ rfl HOa.out A0 n0 c0 rows0 rfl HA0.out ?m2 ?m3 ?m4 ?_)
    case m2 => exact HL0.out _ (hxx.trans hx2a)
    case m3 => omega
    case m4 => exact hx2a.size
    intro vb wb howb hgrb
    have hx2b : Ext w2 wb := hx2a.grown hgrb (fun k e => (HOa.out.lt k e).1)
    rw [← List.map_append] at howb
    obtain ⟨B, cB, rfl, hlB⟩ := Lst.of_own howb
    have hrB := hlB.room
    have hmB := hlB.max
    unfold maxLen at hmB
    have hxb := hxx.trans hx2b
    have HB1 := Lib.hid (HB.out wb hxb B cB hlB 50000)
    have HLB := Lib.hid hlB
    clear howb hgrb hx2a hx2b hlB HOa
    rw [← HX.out] at HB1
    obtain ⟨N, hN⟩ : ∃ N, N = n + n0 := ⟨_, rfl⟩
    rw [← hN] at hrB HB1 HB HLB ⊢
    clear hN
    have hb11 : outV (x1, x2, x3) = .agg #[.string (BA x1), .int .i64 x2, .int .i64 x3] := rfl
    rw [hb11] at HB1
    go_wp2_with fail
    refine HB1.out.mono ?_
    rintro e w5 ⟨rfl, hx5⟩
    have hxy := hxb.trans hx5
    have hb5 : Blk (w5.alloc (.cells #[.string (BA x1), .int .i64 x2, .int .i64 x3] 28)) w5.heap.size 28 [.string (BA x1), .int .i64 x2, .int .i64 x3] := heap_alloc_new w5 _
    have hx6 := hxy.alloc (.cells #[.string (BA x1), .int .i64 x2, .int .i64 x3] 28)
    have HLB6 := Lib.hid (HLB.out.ext (hx5.alloc (.cells #[.string (BA x1), .int .i64 x2, .int .i64 x3] 28)))
    by_cases h12 : x2 = 0 ∨ x2 = 12
    · obtain ⟨k1, out, k2, k3, k4, k5⟩ := HST.out h12
      have hw3 : IntKind.i64.wrap (x3 - 1) = x3 - 1 := IntWalk.i64_in _ (by omega)
      have HBy := Lib.hid (fun W (h : Ext w W) C c (hl : Lst W C N c ((rows ++ rows0).map Value.string)) => (by
        have h := HB.out W h C c hl x3
        rw [k1] at h
        exact h : Calls Tryz.prog 19 #[.slice C N c, .int .u32 arch, .int .i64 x3] W fun e w' => e = .returned (.agg #[.string (BA x1), .int .i64 x2, .int .i64 x3]) ∧ Ext W w'))
      have HBz := Lib.hid (fun W (h : Ext w W) C c (hl : Lst W C N c ((rows ++ rows0).map Value.string)) => (by
        have h := HB.out W h C c hl (x3 - 1)
        rw [k2] at h
        exact h : Calls Tryz.prog 19 #[.slice C N c, .int .u32 arch, .int .i64 (x3 - 1)] W fun e w' => e = .returned (.agg #[.string (BA out), .int .i64 13, .int .i64 (x3 - 1)]) ∧ Ext W w'))
      have HPX := Lib.hid k3
      have HB5 := Lib.hid hb5
      have c1 := hb5.cell (i := 1) rfl
      have c2 := hb5.cell (i := 2) rfl
      have c0 := hb5.cell (i := 0) rfl
      obtain ⟨W6, hW6⟩ : ∃ W6, W6 = w5.alloc (.cells #[.string (BA x1), .int .i64 x2, .int .i64 x3] 28) := ⟨_, rfl⟩
      rw [← hW6] at hx6 HLB6 c0 c1 c2 HB5
      have HC2 := Lib.hid c2
      clear k1 k2 k3 hb5 HB1 HB HX HST
      have hee : ((x2 != 0) = false) ∨ ((x2 != 0) = true ∧ (x2 != 12) = false) := by
        rcases h12 with h | h
        · exact .inl (by rw [h]; rfl)
        · exact .inr ⟨by rw [h]; rfl, by rw [h]; rfl⟩
      clear h12
      have fin : ∀ g1 g2 : Nat, True := fun _ _ => trivial
      rcases hee with q1 | ⟨q1, q2⟩
      all_goals
        go_upto_region 12 with fail
        refine wp_region_inv (l := [_, _, _, _, _, _, _, _, _, _, _, _, _, _, _])
          [(0, 43, .slice B N cB), (1, 44, .int .u32 (arch : Int)), (2, 45, .pointer (some ⟨w5.heap.size, 2, none⟩)), (3, 46, .int .i64 x3), (4, 47, .agg #[.string (BA x1), .int .i64 x2, .int .i64 x3]), (5, 48, .slice B N cB), (6, 49, .int .u32 (arch : Int)), (7, 50, .pointer (some ⟨w5.heap.size, 2, none⟩)), (8, 51, .int .i64 x3), (9, 52, .int .i64 (x3 - 1)), (10, 53, .agg #[.string (BA out), .int .i64 13, .int .i64 (x3 - 1)])] [11, 12]
          (SJ W6 (.string (BA x1)) (.int .i64 x2) (.int .i64 x3) (.string (BA out)) (.int .i64 13) (.int .i64 (x3 - 1))) (by kernel_rfl) (by kernel_rfl) (by kernel_rfl) (by kernel_rfl) (by kernel_rfl) ?_ ?_ ?_
        · exact ⟨by rw [hW6]; exact (Ext.refl _).drew, ⟨fun h => absurd h (by decide), fun h => absurd h (by decide)⟩, ⟨fun h => absurd h (by decide), fun h => absurd h (by decide)⟩, fun h => absurd h (by decide)⟩
        · refine ⟨?_, ?_, ?_, ?_, ?_, ?_, ?_, ?_, ?_, ?_, ?_, ?_, ?_, ?_, ?_, trivial⟩
          all_goals
            intro L a v K hsz hLi hpre hkn hold hJ hK
            have o2 := hold 2 (by kernel_rfl)
            have o9 := hold 9 (by kernel_rfl)
            have o10 := hold 10 (by kernel_rfl)
            simp only [List.forall_mem_cons, List.forall_mem_nil] at hkn
            obtain ⟨k0, k1, k2, k3, k4, k5, k6, k7, k8, k9, k10, -⟩ := hkn
            simp [Region.binds] at hpre
            simp at o2 o9 o10
            clear hold hsz
            have hext := hJ.1
          all_goals try have e0 := k0 (by simp [hpre])
          all_goals try have e1 := k1 (by simp [hpre])
          all_goals try have e2 := k2 (by simp [hpre])
          all_goals try have e3 := k3 (by simp [hpre])
          all_goals try have e4 := k4 (by simp [hpre])
          all_goals try have e5 := k5 (by simp [hpre])
          all_goals try have e6 := k6 (by simp [hpre])
          all_goals try have e7 := k7 (by simp [hpre])
          all_goals try have e8 := k8 (by simp [hpre])
          all_goals try have e9 := k9 (by simp [hpre])
          all_goals try have e10 := k10 (by simp [hpre])
          all_goals clear k0 k1 k2 k3 k4 k5 k6 k7 k8 k9 k10
          all_goals try simp only [Array.getD_eq_getD_getElem?] at e0
          all_goals try simp only [Array.getD_eq_getD_getElem?] at e1
          all_goals try simp only [Array.getD_eq_getD_getElem?] at e2
          all_goals try simp only [Array.getD_eq_getD_getElem?] at e3
          all_goals try simp only [Array.getD_eq_getD_getElem?] at e4
          all_goals try simp only [Array.getD_eq_getD_getElem?] at e5
          all_goals try simp only [Array.getD_eq_getD_getElem?] at e6
          all_goals try simp only [Array.getD_eq_getD_getElem?] at e7
          all_goals try simp only [Array.getD_eq_getD_getElem?] at e8
          all_goals try simp only [Array.getD_eq_getD_getElem?] at e9
          all_goals try simp only [Array.getD_eq_getD_getElem?] at e10
          case refine_1 | refine_2 | refine_3 | refine_6 | refine_7 | refine_8 | refine_10 =>
            unfold guardOk
            go_simp
            refine hK _ _ ?_ (hJ.grow (Ext.refl _) rfl rfl rfl rfl rfl rfl)
            simp [o2, o9, hw3]
          case refine_4 | refine_9 =>
            have hc := hext.cell HC2.out
            unfold guardOk
            go_simp
            refine hK _ _ ?_ (hJ.grow (Ext.refl _) rfl rfl rfl rfl rfl rfl)
            simp
          case refine_5 =>
            unfold guardOk
            go_simp
            refine (HBy.out _ (hx6.trans hext) _ _ (HLB6.out.ext hext)).mono ?_
            rintro e w7 ⟨rfl, hx7⟩
            refine hK _ _ ?_ (hJ.grow hx7 rfl rfl rfl rfl rfl rfl)
            simp
          case refine_11 =>
            unfold guardOk
            go_simp
            refine (HBz.out _ (hx6.trans hext) _ _ (HLB6.out.ext hext)).mono ?_
            rintro e w7 ⟨rfl, hx7⟩
            refine hK _ _ ?_ (hJ.grow hx7 rfl rfl rfl rfl rfl rfl)
            simp
          case refine_12 =>
            unfold guardOk
            go_simp
            refine hK _ _ (by simp) (hJ.alloc11 hLi _ _ _ rfl rfl rfl rfl rfl rfl)
          case refine_13 =>
            unfold guardOk
            go_simp
            refine hK _ _ (by simp) (hJ.alloc12 hLi _ _ _ rfl rfl rfl rfl rfl rfl)
          case refine_14 =>
            obtain ⟨g, x, y, z, q1, q2, q3, q4⟩ := hJ.2.1.2 (by simp [hpre])
            obtain ⟨⟨b0, b1, b2⟩, hfz, hlt⟩ := three q3
            have hs13 := hJ.store13 (L' := fun j => j == 13 || L j) (u' := fun t => a.tmps.getD t undef) (by simp [hpre]) (by simp [hpre]) q1 (by simp [hpre]) rfl rfl rfl rfl
            simp only [Array.getD_eq_getD_getElem?] at q1
            have f0 := hfz 0
            have f1 := hfz 1
            have f2 := hfz 2
            clear hfz hJ
            unfold guardOk
            go_simp
            refine hK undef _ (by simp) ?_
            exact hs13
          case refine_15 =>
            obtain ⟨g, x, y, z, q1, q2, q3, q4⟩ := hJ.2.2.1.2 (by simp [hpre])
            obtain ⟨⟨b0, b1, b2⟩, hfz, hlt⟩ := three q3
            have hs13 := hJ.store14 (L' := fun j => j == 14 || L j) (u' := fun t => a.tmps.getD t undef) (by simp [hpre]) (by simp [hpre]) q1 rfl (by simp [hpre]) rfl rfl rfl
            simp only [Array.getD_eq_getD_getElem?] at q1
            have f0 := hfz 0
            have f1 := hfz 1
            have f2 := hfz 2
            clear hfz hJ
            unfold guardOk
            go_simp
            refine hK undef _ (by simp) ?_
            exact hs13
        · intro u v hJ
          obtain ⟨j0, ⟨-, j1⟩, ⟨-, j2⟩, j3⟩ := hJ
          obtain ⟨g1, y1, y2, y3, p1, p2, p3, p4⟩ := j1 rfl
          obtain ⟨g2, t1, t2, t3, r1, r2, r3, r4⟩ := j2 rfl
          obtain ⟨rfl, rfl, rfl⟩ := p4 rfl
          obtain ⟨rfl, rfl, rfl⟩ := r4 rfl
          have HB5v := HB5.out.ext j0
          obtain ⟨⟨c0, c1, c2⟩, -, -⟩ := three HB5v
          obtain ⟨⟨d0, d1, d2⟩, -, -⟩ := three p3
          obtain ⟨⟨e0, e1, e2⟩, -, -⟩ := three r3
          have hxv := hx6.trans j0
          clear j0 j1 j2 j3 p2 p3 r2 r3 HB5v
          simp only [List.map_cons, List.map_nil, List.cons_append, List.nil_append, putAll, p1, r1, Act.put, List.setIfInBounds_toArray, List.set_cons_zero, List.set_cons_succ]
          have hq := fun s => out_eq s
          have hlo : (BA out).size ≤ (BA x1).size := HPX.out.length_le
          have hlt : ((BA out).size ≤ (BA x1).size) = True := eq_true hlo
          have hslc : ∀ W, (Instr.slice 9 (.string (BA x1)) none (some (.int .i64 ((BA out).size : Int))) none).run Tryz.prog W = .ok (.string (BA out)) W := fun W => slice_prefix HPX.out W
          generalize hX1 : BA x1 = X1 at *
          generalize hOU : BA out = OU at *
          clear hX1 hOU p4 r4 HBy HBz HB5 HLB HLB6
          go_wp2_with fail
          refine wp_region_grow (by kernel_rfl) (by kernel_rfl) ?_
          repeat
            first
            | (apply grow_is
               case h =>
                intro a w1 hg hs hsl
                clear hs
                try simp at hsl
                try (first | (refine Exists.elim (row_spec hsl) ?_; rintro b ⟨hv, _, hh⟩) | (refine Exists.elim (row_spec hsl.1) ?_; rintro b ⟨hv, _, hh⟩))
                try rw [decide_eq_true hlo] at hsl
                have c0 := hg.cell c0
                have c1 := hg.cell c1
                have c2 := hg.cell c2
                have d0 := hg.cell d0
                have d1 := hg.cell d1
                have d2 := hg.cell d2
                have e0 := hg.cell e0
                have e1 := hg.cell e1
                have e2 := hg.cell e2
                unfold growAt guardOk
                go_simp
                try go_bits
                try simp only [↓IntWalk.iteOmega]
                first
                  | exact grow_same
                  | exact is_skip
                  | exact rfl)
          refine grow_fin ?_
          intro w1 hw1
          simp only [List.reverse_cons, List.reverse_nil, List.nil_append, List.cons_append, FinT, Is, forall_eq, List.setIfInBounds_toArray, List.set_cons_succ, List.set_cons_zero]
          have hx9 := hxv.trans hw1
          go_wp2_with fail
          go_ret
          exact ⟨rfl, hx9⟩
    · have q1 : (x2 != 0) = true := by simp; omega
      have q2 : (x2 != 12) = true := by simp; omega
      clear h12 hb11 hb5
      go_wp2_with fail
      go_ret
      exact ⟨rfl, hx6⟩
end Go.Proofs.YtjmglbppmolipaaGreatDoor
