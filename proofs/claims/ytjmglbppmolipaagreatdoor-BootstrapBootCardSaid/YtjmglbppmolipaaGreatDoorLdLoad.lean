/- The loop of Load: maps of integers to strings, a drawn region in a round, the invariants. (Layer 27) -/
import Derived.Test.YtjmglbppmolipaaGreatDoorAsmLib
import Derived.Maps.OwnOps
import Derived.Maps.OwnSet
import Derived.Maps.OwnIn
import Derived.Maps.StringElems
import Derived.Maps.Keyed
import Derived.Test.YtjmglbppmolipaaGreatDoorGrow
import Derived.BigRegionIn
import Derived.RangeFuncCalls
import Derived.Test.YtjmglbppmolipaaGreatDoorLdPieces
namespace Go.Proofs.YtjmglbppmolipaaGreatDoor
open Go.RowKit
open Go.Lib hiding intOf
open Go.Maps
set_option linter.unusedVariables false

theorem keyedI : Keyed Tryz.prog 3 := int_keyed Tryz.underlying3
theorem zeroS (w : World) : (zeroValue 9).run Tryz.prog w = .ok (.string ⟨#[]⟩) w := by kernel_rfl
theorem i64_wf {k : Int} (h0 : 0 ≤ k) (h1 : k ≤ 99999) : (Lit.int .i64 k).wf = true := by
  simp [Lit.wf, IntKind.min, IntKind.max, IntKind.bits, IntKind.signed]; omega
theorem key_int {k : Int} (h0 : 0 ≤ k) (h1 : k ≤ 99999) : keyOf Tryz.prog 3 (.int .i64 k) = some (.int .i64 k) := keyOf_int_mk Tryz.underlying3 (i64_wf h0 h1)

/-- block b is a map of at most n integers that holds f -/
def SMap (w : World) (b n : Nat) (f : Int → Option ByteArray) : Prop :=
  ∃ D : DataW Unit, w.ownsMap Tryz.prog 3 (plainElem Tryz.prog 9) b n D ∧ IsMap D ∧ ∀ k : Int, D.atKey (.int .i64 k) (.lit (.string [])) = .lit (.string ((f k).getD ByteArray.empty).data.toList) ∧ Maps.has D (.int .i64 k) = (f k).isSome
def setS (f : Int → Option ByteArray) (m : Int) (s : ByteArray) : Int → Option ByteArray := fun k => if k = m then some s else f k
theorem SMap.fresh (w : World) : SMap (w.alloc (.map #[] 0)) w.heap.size 0 (fun _ => none) := ⟨.map [], World.ownsMap_made _ _ _ _, ⟨[], rfl⟩, fun k => ⟨rfl, rfl⟩⟩
theorem SMap.lt {w : World} {b n : Nat} {f : Int → Option ByteArray} (h : SMap w b n f) : b < w.heap.size := let ⟨_, h1, _⟩ := h; h1.lt
theorem SMap.grown {w w' : World} {b n : Nat} {f : Int → Option ByteArray} {row : Option Nat} (h : SMap w b n f) (hg : w.grownBy w' row) (hr : some b ≠ row) : SMap w' b n f :=
  let ⟨D, h1, h2, h3⟩ := h; ⟨D, h1.kept hg hr, h2, h3⟩
theorem SMap.ext {w w' : World} {b n : Nat} {f : Int → Option ByteArray} (h : SMap w b n f) (hx : Ext w w') : SMap w' b n f := h.grown (row := none) ⟨hx.os, hx.tape, hx.output, hx.size, fun i hi _ => hx.block i hi⟩ (by simp)
theorem SMap.block {w : World} {b n : Nat} {f : Int → Option ByteArray} (h : SMap w b n f) : ∃ es clock, w.heap[b]? = some (.map es clock) := let ⟨_, ⟨es, clock, h1, _⟩, _⟩ := h; ⟨es, clock, h1⟩
theorem SMap.look {w : World} {b n : Nat} {f : Int → Option ByteArray} (h : SMap w b n f) {k : Int} (h0 : 0 ≤ k) (h1 : k ≤ 99999) :
    (Instr.lookup 105 (.map (some b)) (.int .i64 k) true).run Tryz.prog w = .ok (.tuple #[.string ((f k).getD ByteArray.empty), .bool (f k).isSome]) w := by
  obtain ⟨D, g1, _, g3⟩ := h
  obtain ⟨v, ps, hrun, hv⟩ := g1.look_ok keyedI Tryz.underlying105 (zeroS w) (plainElem_string Tryz.underlying9 (s := ⟨#[]⟩) (show 0 ≤ maxLen from Nat.zero_le _)) (key_int h0 h1)
  obtain ⟨e1, e2⟩ := g3 k
  have e1' : D.atKey (.int .i64 k) (.lit (.string (⟨#[]⟩ : ByteArray).data.toList)) = .lit (.string ((f k).getD ByteArray.empty).data.toList) := e1
  rw [e1'] at hv
  generalize (f k).getD ByteArray.empty = y at *
  obtain ⟨s, rfl, hs, _⟩ := plainElem_string_inv Tryz.underlying9 hv
  have hs1 : DataW.lit (H := Unit) (.string y.data.toList) = .lit (.string s.data.toList) := congrArg Prod.fst hs
  have hs2 : y.data.toList = s.data.toList := by simpa using hs1
  rw [hrun, e2, bytes_inj hs2]
theorem SMap.store {w : World} {b n : Nat} {f : Int → Option ByteArray} (h : SMap w b n f) (hn : n < maxLen) {k : Int} (h0 : 0 ≤ k) (h1 : k ≤ 99999) (s : ByteArray) (hs : s.size ≤ maxLen) :
    ∃ w', (Instr.mapUpdate 105 (.map (some b)) (.int .i64 k) (.string s)).run Tryz.prog w = .ok () w' ∧ SMap w' b (n + 1) (setS f k s) ∧ w.grownBy w' (some b) := by
  obtain ⟨D, g1, g2, g3⟩ := h
  obtain ⟨w', hrun, hown, ht⟩ := g1.store keyedI Tryz.underlying105 hn (key_int h0 h1) (plainElem_string Tryz.underlying9 hs)
  refine ⟨w', hrun, ⟨_, hown, g2.put _ _, fun j => ?_⟩, ht.grown⟩
  unfold setS
  by_cases hj : j = k
  · rw [if_pos hj, hj]
    exact ⟨atKey_put_same g2 (show WideAt.IsKeyLit (Lit.int .i64 k) from trivial) _ _, has_put_same g2 (show WideAt.IsKeyLit (Lit.int .i64 k) from trivial) _⟩
  · rw [if_neg hj, atKey_put_other (by simpa using hj), has_put_other (by simpa using hj)]
    exact g3 j
end Go.Proofs.YtjmglbppmolipaaGreatDoor
namespace Go.Proofs.YtjmglbppmolipaaGreatDoor
open Go.RowKit
set_option linter.unusedVariables false

variable {n : Nat} {P : Program} {md : Region.Mode} {ops : Array Oper} {Q : Exit → Act → World → Prop}
def noDefer (ops : Array Oper) : Bool := ops.all fun o => match o.op with | .defer _ => false | _ => true
theorem noDefer_at {i : Nat} {o : Oper} (h : noDefer ops = true) (ho : ops[i]? = some o) : ∀ c, o.op ≠ .defer c := by
  intro c hc
  obtain ⟨hi, rfl⟩ := Array.getElem?_eq_some_iff.1 ho
  have := Array.all_eq_true.1 h i hi
  rw [hc] at this
  cases this
theorem wpOpIn_round {l i : Nat} {K K' : Act → World → Prop} (h : noDefer ops = true) (hK : ∀ a w, K a w → K' a w) (a : Act) (w : World)
    (hw : wpOpIn Fence.wide n P ops Q i K a w) : wpOpIn (Fence.wide.inRound l) n P ops Q i K' a w := by
  unfold wpOpIn at hw ⊢
  cases ho : ops[i]? with
  | none => rw [ho] at hw; exact hK _ _ hw
  | some o =>
    rw [ho] at hw
    simp only at hw ⊢
    split
    · rename_i hy
      rw [if_pos hy] at hw
      refine ⟨fun _ _ => trivial, ?_⟩
      have h2 := hw.2
      rw [show (Fence.wide.inRound l).round = some l from rfl, Oper.semAt_some l _ o (noDefer_at h ho)]
      rw [show Fence.wide.round = none from rfl, Oper.semAt_none] at h2
      generalize (execOp a.eval o).run P w = r at *
      cases r with
      | ok x w' =>
        cases x <;> simp only [Oper.uponIn] at h2 ⊢ <;>
          first
            | exact hK _ _ h2
            | exact ⟨h2.1, CallsIn.mono (CallsIn.inRound l h2.2) (fun e w'' he => by cases e <;> first | exact hK _ _ he | exact he)⟩
            | exact ⟨h2.1, RowsIn.mono h2.2 (fun v w'' he => hK _ _ he)⟩
            | exact ⟨h2.1, RoundIn.mono h2.2 (fun e w'' he => by cases e <;> first | exact hK _ _ he | exact he)⟩
      | halt x w' => cases x <;> first | exact h2 | exact h2.elim
    · rename_i hy
      rw [if_neg hy] at hw
      exact ⟨fun _ _ => trivial, hK _ _ hw.2⟩
theorem wpAnyIn_round {l : Nat} (h : noDefer ops = true) : ∀ (fuel : Nat) (listed : Array Bool) (a : Act) (w : World),
    wpAnyIn Fence.wide n P md ops Q fuel listed a w → wpAnyIn (Fence.wide.inRound l) n P md ops Q fuel listed a w
  | 0, _, _, _, hw => hw
  | fuel + 1, listed, a, w, hw => ⟨hw.1, fun i hi => wpOpIn_round h (fun a w hk => wpAnyIn_round h fuel _ a w hk) a w (hw.2 i hi)⟩
end Go.Proofs.YtjmglbppmolipaaGreatDoor
namespace Go.Proofs.YtjmglbppmolipaaGreatDoor
open Go.RowKit Go.Shelf
open Go.Lib hiding intOf
set_option linter.unusedVariables false
attribute [local go_sem] Oper.semAt_some

/-- what Load has gathered: the total, the texts, whether two frames contradict each other -/
structure LdS where
  total : Int
  texts : Int → Option ByteArray
  bad : Bool
def confl (s : LdS) (x : Pc) : Bool := (decide (s.total ≠ 0) && decide (x.total ≠ s.total)) || ((s.texts x.index).isSome && decide ((s.texts x.index).getD ByteArray.empty ≠ x.text))
def ldStep (s : LdS) (x : Pc) : LdS := if s.bad = true then s else if confl s x = true then { s with bad := true } else ⟨x.total, setS s.texts x.index x.text, false⟩
def ldRun (l : List Pc) : LdS := l.foldl ldStep ⟨0, fun _ => none, false⟩
theorem ldRun_snoc (l : List Pc) (x : Pc) : ldRun (l ++ [x]) = ldStep (ldRun l) x := by unfold ldRun; rw [List.foldl_append]; rfl
theorem ldStep_bad (s : LdS) (h : s.bad = true) : ∀ l : List Pc, (l.foldl ldStep s).bad = true
  | [] => h
  | x :: l => ldStep_bad (ldStep s x) (by unfold ldStep; rw [if_pos h]; exact h) l
theorem ldRun_pre {p l : List Pc} (hp : p <+: l) (h : (ldRun p).bad = true) : (ldRun l).bad = true := by
  obtain ⟨t, rfl⟩ := hp
  unfold ldRun at h ⊢
  rw [List.foldl_append]
  exact ldStep_bad _ h t
structure LdB where
  (m b1 b2 b4 b5 b6 b7 b8 bm : Nat)
/-- the loop's invariant -/
def LdI (w : World) (B : LdB) (x1 x2 : Value) {arch : Nat} (pre : List (GP arch)) (W : World) : Prop :=
  (ldRun (pre.map Subtype.val)).bad = false ∧ Boxed W B.b7 3 (.int .i64 (ldRun (pre.map Subtype.val)).total) ∧ Boxed W B.b8 105 (.map (some B.bm)) ∧ SMap W B.bm pre.length (ldRun (pre.map Subtype.val)).texts ∧
    Boxed W B.b4 9 (.string ⟨#[]⟩) ∧ Boxed W B.b5 73 (.slice none 0 0) ∧ Boxed W B.b6 26 (.int .i64 0) ∧ Boxed W B.b1 22 x1 ∧ Boxed W B.b2 23 x2 ∧ Ext w W
def LdX (w : World) (B : LdB) {arch : Nat} (pre : List (GP arch)) (W : World) : Prop :=
  (ldRun (pre.map Subtype.val)).bad = true ∧ Boxed W B.b4 9 (.string ⟨#[]⟩) ∧ Boxed W B.b5 73 (.slice none 0 0) ∧ Boxed W B.b6 26 (.int .i64 20) ∧ Ext w W
theorem boxed_from {W W' : World} {row : Option Nat} {b : Nat} {t : TypeId} {v : Value} (h : Boxed W b t v) (hg : W.grownBy W' row) (hr : ∀ r, row = some r → b < r ∨ ∃ o : Obj, W.heap[r]? = some o ∧ o.isCells = false) : Boxed W' b t v :=
  h.kept hg (fun e => by
    rcases hr b e.symm with h1 | ⟨o, ho, hc⟩
    · omega
    · rw [show W.heap[b]? = _ from h] at ho; cases ho; cases hc)
theorem ldI_own (w : World) (B : LdB) (x1 x2 : Value) (N arch : Nat) (hm : B.bm < N) (hN : w.heap.size ≤ N) : OwnFrom N (LdI w B x1 x2 (arch := arch)) := by
  rintro s W W' row ⟨h0, h7, h8, hs, h4, h5, h6, h1, h2, hx⟩ hg hr
  have hr' : ∀ b r, row = some r → b < r ∨ ∃ o : Obj, W.heap[r]? = some o ∧ o.isCells = false := fun b r e => .inr (hr r e).2
  refine ⟨h0, boxed_from h7 hg (hr' _), boxed_from h8 hg (hr' _), hs.grown hg (fun e => ?_), boxed_from h4 hg (hr' _), boxed_from h5 hg (hr' _), boxed_from h6 hg (hr' _), boxed_from h1 hg (hr' _), boxed_from h2 hg (hr' _), ?_⟩
  · have := (hr _ e.symm).1; omega
  · exact hx.grown hg (fun k e => Nat.le_trans hN (hr k e).1)
theorem ldX_own (w : World) (B : LdB) (N arch : Nat) (hN : w.heap.size ≤ N) : OwnFrom N (LdX w B (arch := arch)) := by
  rintro s W W' row ⟨h0, h4, h5, h6, hx⟩ hg hr
  have hr' : ∀ b r, row = some r → b < r ∨ ∃ o : Obj, W.heap[r]? = some o ∧ o.isCells = false := fun b r e => .inr (hr r e).2
  exact ⟨h0, boxed_from h4 hg (hr' _), boxed_from h5 hg (hr' _), boxed_from h6 hg (hr' _), hx.grown hg (fun k e => Nat.le_trans hN (hr k e).1)⟩
/-- the blocks lie in this order -/
structure LdB.Ok (w : World) (B : LdB) (N : Nat) : Prop where
  a4 : w.heap.size ≤ B.b4
  a5 : B.b4 < B.b5
  a6 : B.b5 < B.b6
  am : B.b6 < B.bm
  a7 : B.bm < B.b7
  a8 : B.b7 < B.b8
  a1 : B.b8 < B.b1
  a2 : B.b1 < B.b2
  aN : B.b2 < N
theorem drew_grown (W : World) : W.grownBy W.drew none := ⟨rfl, rfl, rfl, Nat.le_refl _, fun _ _ _ => rfl⟩
theorem ldI_step (w : World) (B : LdB) (x1 x2 : Value) {arch : Nat} (pre : List (GP arch)) (x : GP arch) (W : World) (N : Nat) (hB : B.Ok w N) (h : LdI w B x1 x2 pre W) (hn : pre.length < maxLen) (hc : confl (ldRun (pre.map Subtype.val)) x.1 = false) :
    ∃ W', (Instr.mapUpdate 105 (.map (some B.bm)) (.int .i64 x.1.index) (.string x.1.text)).run Tryz.prog (W.setCell ⟨B.b7, 0, none⟩ (.int .i64 x.1.total)).drew = .ok () W' ∧
      KeepsFrom N W W' ∧ KpL w.heap.size B.b1 B.b2 W W' ∧ LdI w B x1 x2 (pre ++ [x]) W' := by
  obtain ⟨a4, a5, a6, am, a7, a8, a1, a2, aN⟩ := hB
  obtain ⟨h0, h7, h8, hs, h4, h5, h6, h1, h2, hx⟩ := h
  obtain ⟨k1, k2, k3, k4, k5, -⟩ := check_ok x.2.2
  have g1 : W.grownBy W.drew none := drew_grown W
  have g2 := grownBy_setCell' W.drew B.b7 (.int .i64 x.1.total)
  have hs2 : SMap (W.drew.setCell ⟨B.b7, 0, none⟩ (.int .i64 x.1.total)) B.bm pre.length (ldRun (pre.map Subtype.val)).texts := (hs.grown g1 (by simp)).grown g2 (by simp; omega)
  obtain ⟨W', hrun, hs3, g3⟩ := hs2.store hn (k := x.1.index) k3 (by omega) x.1.text (by rw [k5]; decide)
  have q : ∀ b, b ≠ B.b7 → b ≠ B.bm → b < W.heap.size → W'.heap[b]? = W.heap[b]? := fun b e1 e2 hb => by
    rw [g3.block b (Nat.lt_of_lt_of_le hb g2.size) (by simpa using e2), g2.block b hb (by simpa using e1)]
    rfl
  have e : ldRun ((pre ++ [x]).map Subtype.val) = ⟨x.1.total, setS (ldRun (pre.map Subtype.val)).texts x.1.index x.1.text, false⟩ := by
    rw [List.map_append, List.map_cons, List.map_nil, ldRun_snoc]
    unfold ldStep
    rw [if_neg (by rw [h0]; decide), if_neg (by rw [hc]; decide)]
  refine ⟨W', hrun, ?_, ?_, ?_⟩
  · exact ((KeepsFrom.of_grownBy g1 (fun j e => by cases e)).trans (KeepsFrom.of_grownBy g2 (fun j e => by cases e; omega))).trans (KeepsFrom.of_grownBy g3 (fun j e => by cases e; omega))
  · refine ⟨?_, q _ (by omega) (by omega) h1.lt, q _ (by omega) (by omega) h2.lt⟩
    have c1 : Below w.heap.size W W.drew := (Below.refl _ _).grown g1 hx.size (fun k e => by cases e)
    have c2 := c1.grown g2 (Nat.le_trans hx.size g1.size) (fun k e => by cases e; omega)
    exact c2.grown g3 (Nat.le_trans (Nat.le_trans hx.size g1.size) g2.size) (fun k e => by cases e; omega)
  · unfold LdI
    rw [e]
    have hb7 : Boxed W.drew B.b7 3 (.int .i64 (ldRun (pre.map Subtype.val)).total) := h7
    have hb7' := (hb7.set (.int .i64 x.1.total)).kept g3 (by simp; omega)
    refine ⟨rfl, hb7', (q _ (by omega) (by omega) h8.lt).trans h8, ?_, (q _ (by omega) (by omega) h4.lt).trans h4, (q _ (by omega) (by omega) h5.lt).trans h5, (q _ (by omega) (by omega) h6.lt).trans h6, (q _ (by omega) (by omega) h1.lt).trans h1, (q _ (by omega) (by omega) h2.lt).trans h2, ?_⟩
    · rw [List.length_append]; exact hs3
    · exact ((hx.grown g1 (fun k e => by cases e)).grown g2 (fun k e => by cases e; omega)).grown g3 (fun k e => by cases e; omega)
theorem ldX_step (w : World) (B : LdB) (x1 x2 : Value) {arch : Nat} (pre : List (GP arch)) (x : GP arch) (W : World) (N : Nat) (hB : B.Ok w N) (h : LdI w B x1 x2 pre W) (hc : confl (ldRun (pre.map Subtype.val)) x.1 = true) :
    KeepsFrom N W (((W.setCell ⟨B.b4, 0, none⟩ (.string ⟨#[]⟩)).setCell ⟨B.b5, 0, none⟩ (.slice none 0 0)).setCell ⟨B.b6, 0, none⟩ (.int .i64 20)) ∧
      LdX w B (pre ++ [x]) (((W.setCell ⟨B.b4, 0, none⟩ (.string ⟨#[]⟩)).setCell ⟨B.b5, 0, none⟩ (.slice none 0 0)).setCell ⟨B.b6, 0, none⟩ (.int .i64 20)) := by
  obtain ⟨a4, a5, a6, am, a7, a8, a1, a2, aN⟩ := hB
  obtain ⟨h0, h7, h8, hs, h4, h5, h6, h1, h2, hx⟩ := h
  have g1 := grownBy_setCell' W B.b4 (.string ⟨#[]⟩)
  have g2 := grownBy_setCell' (W.setCell ⟨B.b4, 0, none⟩ (.string ⟨#[]⟩)) B.b5 (.slice none 0 0)
  have g3 := grownBy_setCell' ((W.setCell ⟨B.b4, 0, none⟩ (.string ⟨#[]⟩)).setCell ⟨B.b5, 0, none⟩ (.slice none 0 0)) B.b6 (.int .i64 20)
  have e : (ldRun ((pre ++ [x]).map Subtype.val)).bad = true := by
    rw [List.map_append, List.map_cons, List.map_nil, ldRun_snoc]
    unfold ldStep
    rw [if_neg (by rw [h0]; decide), if_pos hc]
  refine ⟨((KeepsFrom.of_grownBy g1 (fun j e => by cases e; omega)).trans (KeepsFrom.of_grownBy g2 (fun j e => by cases e; omega))).trans (KeepsFrom.of_grownBy g3 (fun j e => by cases e; omega)), e, ?_, ?_, ?_, ?_⟩
  · exact ((h4.set _).other (by omega) _).other (by omega) _
  · exact ((h5.other (by omega) _).set _).other (by omega) _
  · exact ((h6.other (by omega) _).other (by omega) _).set _
  · exact ((hx.set (by show w.heap.size ≤ B.b4; omega) _).set (by show w.heap.size ≤ B.b5; omega) _).set (by show w.heap.size ≤ B.b6; omega) _
end Go.Proofs.YtjmglbppmolipaaGreatDoor
