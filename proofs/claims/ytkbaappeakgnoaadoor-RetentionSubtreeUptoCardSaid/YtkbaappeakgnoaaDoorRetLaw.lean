/- The laws of layer 38 return true: RetentionResult. -/
import Derived.Test.YtkbaappeakgnoaaDoorRetFine
import Derived.Test.YtkbaappeakgnoaaDoorRetAwake
namespace Go.Proofs.YtkbaappeakgnoaaDoor
open Go.RowKit Go.Lib
set_option linter.unusedVariables false
attribute [local simp] Slots Slot look Is Oper.looksAt Op.operands Call.operands

/-- a list of holds in new memory -/
def HL (l : List Hold) : AV := fun w v => ∃ A cap, v = .slice A l.length cap ∧ HLst w A l.length cap l
theorem Up.hl (l : List Hold) : Up (HL l) := fun _ _ _ hx ⟨A, cap, h, hl⟩ => ⟨A, cap, h, hl.ext hx⟩

theorem active_hl (date : Int) (A : Option Addr) (n cap : Nat) (l : List Hold) (w : World) (hl : HLst w A n cap l) (hr : n * 24 ≤ 140737488351232) :
    Calls Tryd.prog 14 #[.slice A n cap, .int .i64 date] w fun e w' => ∃ v, e = .returned v ∧ Ext w w' ∧ HL (l.filter (inForce date)) w' v := by
  refine (active_any date A n cap l w hl hr).mono ?_
  rintro e w' ⟨v, rfl, hown, hx⟩
  exact ⟨v, rfl, hx, HLst.of_own hown⟩

theorem ractive_hl (date : Int) (A : Option Addr) (n cap : Nat) (l : List Hold) (w : World) (hl : HLst w A n cap l) (hr : n * 24 ≤ 140737488351232) :
    Calls Tryd.prog 15 #[.slice A n cap, .int .i64 date] w fun e w' => ∃ v, e = .returned v ∧ Ext w w' ∧ HL (l.filter (inForce date)) w' v := by
  refine (ractive_any date A n cap l w hl hr).mono ?_
  rintro e w' ⟨v, rfl, hown, hx⟩
  exact ⟨v, rfl, hx, HLst.of_own hown⟩

theorem short_of_good {l : List Hold} (h : ∀ i, i < l.length → good l i) : Short l := by
  intro x hx
  obtain ⟨i, hi, rfl⟩ := List.getElem_of_mem hx
  exact good_chk (h i hi) hi

set_option maxHeartbeats 2000000 in
set_option maxRecDepth 100000 in
theorem result_any (kind date : Int) (p : ByteArray) (a2 a3 a4 a5 a6 : Value) (A : Option Addr) (n cap : Nat) (l : List Hold) (w : World) (hl : HLst w A n cap l) (hz : ∀ h ∈ l, h.1.size ≤ maxLen) (hp : p.size < 4294967281) (hE : Env w) :
    Calls Tryd.prog 3 #[.slice A n cap, .agg #[.int .i64 kind, .string p, a2, a3, a4, a5, a6], .int .i64 date] w fun e w' => e = .returned (.bool true) ∧ Ext w w' := by
  have haw := fun W (hW : Env W) => awake_any W hW
  have hfine := fun B W (hl : HLst W A n cap l) (hps : Lst W B 1 1 ([p].map .string)) (hE : Env W) => fine_any A B n cap 1 1 l [p] W hl hz hps (by intro q hq; simp at hq; subst hq; exact hp) hE
  have HAW := Lib.hid haw
  have HF := Lib.hid hfine
  clear haw hfine
  go_enter Tryd.func3, Tryd.ntmps3
  go_wp2_with fail
  have hx0 : Ext w ((w.alloc (.cells #[.int .i64 kind, .string p, a2, a3, a4, a5, a6] 26)).alloc (.cells #[.string p] 9)) := ((Ext.refl w).alloc _).alloc _
  refine (HF.out _ _ (hl.ext hx0) ⟨rfl, Nat.le_refl _, by decide, fun _ => ⟨_, _, rfl, fun i hi => ?_⟩⟩ (hE.ext hx0)).mono ?_
  · obtain rfl : i = 0 := by simp at hi; exact hi
    simp
  rintro e w1 ⟨r, rfl, hr, hx⟩
  have he0 : w1.cell? ⟨w.heap.size, 0, none⟩ = some (.int .i64 kind) := hx.cell (by simp)
  have he1 : w1.cell? ⟨w.heap.size, 1, none⟩ = some (.string p) := hx.cell (by simp)
  have he2 : w1.cell? ⟨w.heap.size, 2, none⟩ = some a2 := hx.cell (by simp)
  have he3 : w1.cell? ⟨w.heap.size, 3, none⟩ = some a3 := hx.cell (by simp)
  have he4 : w1.cell? ⟨w.heap.size, 4, none⟩ = some a4 := hx.cell (by simp)
  have he5 : w1.cell? ⟨w.heap.size, 5, none⟩ = some a5 := hx.cell (by simp)
  have he6 : w1.cell? ⟨w.heap.size, 6, none⟩ = some a6 := hx.cell (by simp)
  have hx1 := hx0.trans hx
  have hl1 := hl.ext hx1
  have hE1 := hE.ext hx1
  clear hx hx0
  cases r
  · clear hr
    go_wp2_with fail
    refine (HAW.out _ hE1).mono ?_
    rintro e w2 ⟨rfl, hx2⟩
    go_wp2_with fail
    go_ret
    exact ⟨rfl, hx1.trans hx2⟩
  · obtain ⟨h12, hg, _⟩ := hr rfl
    have hs := short_of_good hg
    have hmp : p.size ≤ maxLen := by unfold maxLen; omega
    have c1 := fun W (hW : HLst W A n cap l) (hEW : Env W) => held_any p date A n cap l W hW (by omega) hp hs hEW
    have c2 := fun W (hW : HLst W A n cap l) => rheld_any p date A n cap l W hW hmp hs
    have c3 := fun W (hW : HLst W A n cap l) (hEW : Env W) => allowed38_any kind p a2 a3 a4 a5 a6 date A n cap l W hW (by omega) hp hs hEW
    have c4 := fun W (hW : HLst W A n cap l) => rallowed_any kind p a2 a3 a4 a5 a6 date A n cap l W hW hmp hs
    have c5 := fun W (hW : HLst W A n cap l) => active_hl date A n cap l W hW (by omega)
    have c6 := fun W (hW : HLst W A n cap l) => ractive_hl date A n cap l W hW (by omega)
    generalize heldB l p date = hb at c1 c2
    generalize allowZ l kind p date = az at c3 c4
    generalize l.filter (inForce date) = m at c5 c6
    have hsame := fun (A B : Option Addr) c d W (h1 : HLst W A m.length c m) (h2 : HLst W B m.length d m) => rsame_any A B m.length m.length c d m m W h1 h2
    rw [decide_eq_true rfl] at hsame
    have C1 := Lib.hid c1
    have C2 := Lib.hid c2
    have C3 := Lib.hid c3
    have C4 := Lib.hid c4
    have C5 := Lib.hid c5
    have C6 := Lib.hid c6
    have C7 := Lib.hid hsame
    clear hr hg hs c1 c2 c3 c4 c5 c6 hsame
    go_wp2_with fail
    refine wp_region_grow (by kernel_rfl) (by kernel_rfl) ?_
    repeat
      first
      | (apply grow_is
         case h =>
          intro a w1 hg hs hsl
          clear hs
          simp at hsl
          try (first | (refine Exists.elim (row_spec hsl) ?_; rintro b ⟨hv, _, hh⟩) | (refine Exists.elim (row_spec hsl.1) ?_; rintro b ⟨hv, _, hh⟩))
          have he0 := hg.cell he0
          have he1 := hg.cell he1
          have he2 := hg.cell he2
          have he3 := hg.cell he3
          have he4 := hg.cell he4
          have he5 := hg.cell he5
          have he6 := hg.cell he6
          try (refine Exists.elim hsl.1 ?_; rintro A1 ⟨d1, hv1, hl1⟩; refine Exists.elim hsl.2.1 ?_; rintro A2 ⟨d2, hv2, hl2⟩)
          unfold growAt guardOk
          go_simp
          try go_bits
          try simp only [↓IntWalk.iteOmega]
          first
            | exact grow_same
            | exact is_skip
            | exact rfl
            | with_reducible exact grow_call_ext (C1.out _ (hl1.ext hg) (hE1.ext hg))
            | with_reducible exact grow_call_ext (C2.out _ (hl1.ext hg))
            | with_reducible exact grow_call_ext (C3.out _ (hl1.ext hg) (hE1.ext hg))
            | with_reducible exact grow_call_ext (C4.out _ (hl1.ext hg))
            | with_reducible exact grow_call_ext (C7.out _ _ _ _ _ hl1 hl2)
            | with_reducible exact grow_call_ext (HAW.out _ (hE1.ext hg)))
      | (refine grow_in (HL m) (Up.hl _) ?_ ?_
         · intro a w1 hg hs hsl
           clear hs
           simp at hsl
           try (first | (refine Exists.elim (row_spec hsl) ?_; rintro b ⟨hv, _, hh⟩) | (refine Exists.elim (row_spec hsl.1) ?_; rintro b ⟨hv, _, hh⟩))
           have he0 := hg.cell he0
           have he1 := hg.cell he1
           have he2 := hg.cell he2
           have he3 := hg.cell he3
           have he4 := hg.cell he4
           have he5 := hg.cell he5
           have he6 := hg.cell he6
           try (refine Exists.elim hsl.1 ?_; rintro A1 ⟨d1, hv1, hl1⟩; refine Exists.elim hsl.2.1 ?_; rintro A2 ⟨d2, hv2, hl2⟩)
           unfold growAt guardOk
           go_simp
           try go_bits
           try simp only [↓IntWalk.iteOmega]
           (first | with_reducible exact grow_call (Ext.refl _) (C5.out _ (hl1.ext hg)) | with_reducible exact grow_call (Ext.refl _) (C6.out _ (hl1.ext hg))))
    refine grow_fin ?_
    intro w1 hw1
    simp only [List.reverse_cons, List.reverse_nil, List.nil_append, List.cons_append, FinT, Is, forall_eq, List.setIfInBounds_toArray, List.set_cons_succ, List.set_cons_zero]
    intro v1 hv1 v2 hv2
    go_wp2_with fail
    go_ret
    exact ⟨by simp, hx1.trans hw1⟩
end Go.Proofs.YtkbaappeakgnoaaDoor
