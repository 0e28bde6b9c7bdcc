/- The law RetentionHold of layer 38 returns true for all arguments of bulk at most 1048576 and leaves them as they were; the card ties the library's tables to the program's text. -/
import Derived.Test.YtkbaappeakgnoaaGreatDoorCards
import Derived.Test.YtkbaappeakgnoaaGreatDoorTie
import Derived.Test.YtkbaappeakgnoaaGreatDoorRetHold
import Derived.Test.YtkbaappeakgnoaaGreatDoorRetOpen4
import Derived.Test.YtkbaappeakgnoaaGreatDoorRetWorldZ
import Derived.Carry
import Derived.ChangeSame
import Derived.Deep.DeepHandedRow
import Derived.OpenShut
import Derived.ProofKit
namespace Go.Proofs.YtkbaappeakgnoaaGreatDoor.retentionHold
open Go.ChangeShapes Go.WideShapes Go.ChangeAt Go.RowKit
set_option linter.unusedVariables false

theorem own : ownKnob Tryz.prog.godebug = none := by kernel_rfl
theorem lay : laidOutB Tryz.prog = true := by kernel_rfl

set_option maxRecDepth 100000 in
theorem contract (H : Type) (enc : TypeId × Value → H) (W : World) (base : Nat) (args : Array Value) (ds gs : List (DataW H)) (before : List MemPlace)
    (hval : ∀ (j : Nat) t v, Tryz.f3.params[j]? = some t → args[j]? = some v → Value.okWide Tryz.prog W .any base t v)
    (hW : DataW.Whole enc Tryz.prog Tryz.f3.params.toList Rows.retentionHoldSpec.vars false W args.toList ds gs before) (hb : Rows.uptoSmall H (ds ++ gs) = true) (hE : Env W) :
    Calls Tryz.prog 3 args W fun e W' => ∃ v, e = .returned v ∧ Rows.retentionHoldSpec.post enc Tryz.prog Tryz.f3 false true false false W args v W' := by
  have hlt : ∀ x ∈ before, x.block < W.heap.size := fun x hx => by simpa using hW.lt x hx
  have hW' := hW
  obtain ⟨p, q, hA0, hV, rfl, hfz, hnd⟩ := hW
  have hA : DataW.TrodAll enc Tryz.prog W 0 (fun _ => true) true Tryz.f3.params.toList args.toList ds p := hA0
  rw [Tryz.params3] at hA hval
  obtain ⟨v0, vs0, d0, ds0, p0, q0, hargs, rfl, rfl, h0, r0⟩ := trodAll_cons hA
  obtain ⟨rfl, rfl, rfl⟩ := trodAll_nil r0
  obtain rfl : args = #[v0] := by cases args; simp_all
  obtain ⟨rfl, rfl⟩ := trodVars_none hV
  have hbk := of_decide_eq_true hb
  simp only [Rows.uptoBulkAll, List.append_nil] at hbk
  have k0 := h0
  obtain ⟨A, n, cap, l, p, q, x1, x2, x3, rfl, hl, hz, b1, b2, b3, hs, hs2⟩ := open_held (hval 0 26 v0 rfl rfl) h0
  clear hA0
  refine (hold_any p q x1 x2 x3 A n cap l W hl hz (by omega) (by omega) b1 b2 b3 hE).mono fun e W' ⟨he, bel⟩ => ?_
  subst he
  have hsame : ∀ x ∈ ((p0 ++ ([] ++ [])) : List MemPlace), W.sameAt W' x := fun x hx => bel.same (hlt x (by simpa using hx))
  have hargs' : ∀ sp : Nat → Bool, (∀ x ∈ ((p0 ++ ([] ++ [])) : List MemPlace) ++ [], sp x.block = true) → DataW.TrodAll enc Tryz.prog W' 0 sp true Tryz.f3.params.toList (#[Value.agg #[.slice A n cap, .string p, .string q, .int .u16 (x1 : Int), .int .u16 (x2 : Int), .int .u16 (x3 : Int)]] : Array Value).toList (Rows.retentionHoldSpec.fn H ([d0] ++ [])).args (((p0 ++ ([] ++ [])) : List MemPlace)) := by
    intro sp hsp
    rw [Tryz.params3]
    exact trodAll_cons_mk (WideElems.Trod_stays lay (by kernel_rfl) (of_decide_eq_true (by kernel_rfl)) k0 (fun x hx => hsame x (by simp [hx])) (fun x hx => hsp x (by simp [hx]))) trodAll_mk0
  exact ⟨_, rfl, _, _, _, [], _, [], hW', trodAll_cons_mk (shut_bool Tryz.underlying4 _) trodAll_mk0, hargs' _ (fun x hx => by simpa using hlt x hx), rfl, bel.frame _, fun h => by cases h⟩

def argW : Array Value := #[.agg #[.slice none 0 0, .string ByteArray.empty, .string ByteArray.empty, .int .u16 0, .int .u16 0, .int .u16 0]]
theorem laid_met (os : Os) : laidMet Tryz.prog Rows.retentionHoldUptoRow.laid ((laidWorld os).forCall (fun _ _ => 0) ⟨#[], argW, []⟩).memory :=
  laidMet_of_run' 8 (by kernel_rfl) (by kernel_rfl)

theorem reads (os : Os) {H : Type} (enc : TypeId × Value → H) : ∃ places, DataW.whole enc Tryz.prog ((laidWorld os).forCall (fun _ _ => 0) ⟨#[], argW, []⟩).memory Tryz.f3.params.toList Rows.retentionHoldSpec.vars false argW.toList 8 = some ([.agg [.nil, .lit (.string []), .lit (.string []), .agg [.lit (.int .u16 0), .lit (.int .u16 0), .lit (.int .u16 0)]]], [], places) :=
  ⟨[], by kernel_rfl⟩

set_option maxRecDepth 100000 in
theorem lifted (os : Os) (started : os.Started) (H : Type) (enc : TypeId × Value → H) (F : Stop.Interp) :
    ReturnsInHanded {} Tryz.checked os 3 .any ((Rows.OpenSpec.upto Rows.retentionHoldSpec).preRow enc Tryz.prog Tryz.f3 Rows.retentionHoldUptoRow.domain false Rows.retentionHoldUptoRow.laid) (((Rows.OpenSpec.upto Rows.retentionHoldSpec).at F).post enc Tryz.prog Tryz.f3 false true false false) := by
  obtain ⟨places, hx⟩ := reads os enc
  refine returnsInHanded_of_row (C := Tryz.checked) (s := (Rows.OpenSpec.upto Rows.retentionHoldSpec)) own started (by kernel_rfl) Tryz.func3
    (witness_row_at (enc := enc) (C := Tryz.checked) false (laidWorld os) argW rfl (by kernel_rfl) (by kernel_rfl) (by kernel_rfl)
      (OpenSpec.preRow_of_cond 8 hx (by kernel_rfl) (fun k hk => by cases hk; kernel_rfl) (by kernel_rfl) (laid_met os))) ?_
  intro W base args ds gs before hval hW _ hcond hsz hL hsh _
  exact contract H enc W base args ds gs before hval hW (hcond _ rfl) (env_of hsh)

theorem said : Rows.RetentionHoldUptoSaid :=
  OpenClaim.holds_of_cond 3 Tryz.f3 rfl rfl rfl rfl rfl rfl rfl ⟨rfl, rfl, rfl, rfl, rfl⟩ rfl rfl rfl rfl rfl (by kernel_rfl) Tryz.func3 (by kernel_rfl)
    (of_decide_eq_true (by kernel_rfl)) (by unfold Func.isWrapper; first | (rw [if_pos (by decide +kernel)]; kernel_rfl) | (rw [if_neg (by decide +kernel)]; exact ⟨rfl, rfl⟩))
    (fun os started H enc _ F => by rw [OpenClaim.pre_eq_preRow]; exact lifted os started H enc F)

theorem plain (f : FuncId) (fn : Func) (hf : Tryz.pinned.checked.prog.funcNamed "stele/stelelaw38.RetentionHold" = some f) (hfn : Tryz.pinned.checked.prog.funcs[f]? = some fn) :
    true = Tryz.pinned.checked.prog.looks [] ∧ ∀ (j : Nat) t, fn.params[j]? = some t → Tryz.pinned.checked.prog.wantsStandIn t = false := by
  obtain rfl : f = 3 := Option.some.inj ((show Tryz.prog.funcNamed "stele/stelelaw38.RetentionHold" = some 3 by kernel_rfl).symm.trans hf) |>.symm
  obtain rfl : fn = Tryz.f3 := (Option.some.inj (Tryz.func3.symm.trans hfn)).symm
  refine ⟨by kernel_rfl, fun j t ht => ?_⟩
  rw [Tryz.params3] at ht
  have := Array.mem_of_getElem? ht
  simp only [List.mem_toArray, List.mem_cons, List.not_mem_nil, or_false] at this
  subst this
  exact (show Tryz.prog.wantsStandIn 26 = false by kernel_rfl)

/-- the statement -/
theorem proved : Rows.RetentionHoldUptoCardSaid :=
  Claim7.holds_tied_plain_at .later [] _ _ _ _ said (fun _ h => by cases h) (by kernel_rfl) (fun _ h => by cases h) retentionHoldUpto_row_tie rfl ⟨rfl, rfl⟩ (by kernel_rfl) rfl plain (by kernel_rfl)
#print axioms proved
end Go.Proofs.YtkbaappeakgnoaaGreatDoor.retentionHold
