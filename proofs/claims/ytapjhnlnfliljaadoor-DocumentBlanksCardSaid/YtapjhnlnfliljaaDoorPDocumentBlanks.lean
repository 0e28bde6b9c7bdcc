/- The law DocumentBlanks of layer 49 returns true for every input and leaves its arguments as they were; the card ties the library's tables and errors to the program's text. -/
import Derived.Test.YtapjhnlnfliljaaDoorCards
import Derived.Test.YtapjhnlnfliljaaDoorTie
import Derived.Test.YtapjhnlnfliljaaDoorDocLaws4
import Derived.Test.YtapjhnlnfliljaaDoorDocWorld
import Derived.ShutString
import Derived.Carry
import Derived.ChangeSame
import Derived.Deep.DeepHandedRow
import Derived.OpenShut
import Derived.ProofKit
namespace Go.Proofs.YtapjhnlnfliljaaDoor.documentBlanks
open Go.ChangeShapes Go.WideShapes Go.ChangeAt Go.RowKit
set_option linter.unusedVariables false

theorem own : ownKnob Tryd.prog.godebug = none := by kernel_rfl
theorem lay : laidOutB Tryd.prog = true := by kernel_rfl

set_option maxRecDepth 100000 in
theorem contract (H : Type) (enc : TypeId × Value → H) (W : World) (base : Nat) (args : Array Value) (ds gs : List (DataW H)) (before : List MemPlace)
    (hval : ∀ (j : Nat) t v, Tryd.f8.params[j]? = some t → args[j]? = some v → Value.okWide Tryd.prog W .any base t v)
    (hW : DataW.Whole enc Tryd.prog Tryd.f8.params.toList Rows.documentBlanksSpec.vars false W args.toList ds gs before) (hE : Env W ∧ Sy W) :
    Calls Tryd.prog 8 args W fun e W' => ∃ v, e = .returned v ∧ Rows.documentBlanksSpec.post enc Tryd.prog Tryd.f8 false true false false W args v W' := by
  have hlt : ∀ x ∈ before, x.block < W.heap.size := fun x hx => by simpa using hW.lt x hx
  have hW' := hW
  obtain ⟨p, q, hA0, hV, rfl, hfz, hnd⟩ := hW
  have hA : DataW.TrodAll enc Tryd.prog W 0 (fun _ => true) true Tryd.f8.params.toList args.toList ds p := hA0
  rw [Tryd.params8] at hA hval
  obtain ⟨v0, vs0, d0, ds0, p0, q0, hargs, rfl, rfl, h0, r0⟩ := trodAll_cons hA
  obtain ⟨v1, vs1, d1, ds1, p1, q1, rfl, rfl, rfl, h1, r1⟩ := trodAll_cons r0
  obtain ⟨rfl, rfl, rfl⟩ := trodAll_nil r1
  obtain rfl : args = #[v0, v1] := by cases args; simp_all
  obtain ⟨rfl, rfl⟩ := trodVars_none hV
  have k0 := h0
  have k1 := h1
  obtain ⟨a0, rfl, rfl, rfl, w0⟩ := Go.ChangeMaps.open_string Tryd.underlying9 (hval 0 9 v0 rfl rfl) h0
  obtain ⟨n1, rfl, rfl, rfl, w1⟩ := open_int Tryd.underlying5 (hval 1 5 v1 rfl rfl) h1
  obtain ⟨b1, rfl, hb1⟩ : ∃ m : Nat, n1 = (m : Int) ∧ m ≤ 255 := by simp [Lit.wf, IntKind.min, IntKind.max, IntKind.bits, IntKind.signed] at w1; exact ⟨n1.toNat, by omega, by omega⟩
  clear hA0
  refine (lawBlanks_any a0 b1 (by omega) W w0 hE.1 hE.2).mono fun e W' ⟨he, bel⟩ => ?_
  subst he
  have hsame : ∀ x ∈ (([] ++ ([] ++ ([] ++ []))) : List MemPlace), W.sameAt W' x := fun x hx => by simp at hx
  have hargs' : ∀ sp : Nat → Bool, (∀ x ∈ (([] ++ ([] ++ ([] ++ []))) : List MemPlace) ++ [], sp x.block = true) → DataW.TrodAll enc Tryd.prog W' 0 sp true Tryd.f8.params.toList (#[Value.string a0, Value.int .u8 (b1 : Int)] : Array Value).toList (Rows.documentBlanksSpec.fn H ([.lit (.string a0.data.toList), .lit (.int .u8 (b1 : Int))] ++ [])).args ((([] ++ ([] ++ ([] ++ []))) : List MemPlace)) := by
    intro sp hsp
    rw [Tryd.params8]
    refine trodAll_cons_mk (WideElems.Trod_stays lay (by kernel_rfl) (of_decide_eq_true (by kernel_rfl)) k0 (fun x hx => by cases hx) (fun x hx => by cases hx)) ?_
    exact trodAll_cons_mk (WideElems.Trod_stays lay (by kernel_rfl) (of_decide_eq_true (by kernel_rfl)) k1 (fun x hx => by cases hx) (fun x hx => by cases hx)) trodAll_mk0
  exact ⟨_, rfl, _, _, _, [], _, [], hW', trodAll_cons_mk (shut_bool Tryd.underlying4 _) trodAll_mk0, hargs' _ (fun x hx => by simp at hx), rfl, bel.frame _, fun h => by cases h⟩

def argW : Array Value := #[.string ByteArray.empty, .int .u8 0]
theorem laid_met (os : Os) : laidMet Tryd.prog Rows.documentBlanksRow.laid ((laidWorld os).forCall (fun _ _ => 0) ⟨#[], argW, []⟩).memory :=
  laidMet_of_run' 8 (by kernel_rfl) (by kernel_rfl)

theorem reads (os : Os) {H : Type} (enc : TypeId × Value → H) : ∃ places, DataW.whole enc Tryd.prog ((laidWorld os).forCall (fun _ _ => 0) ⟨#[], argW, []⟩).memory Tryd.f8.params.toList Rows.documentBlanksSpec.vars false argW.toList 8 = some ([.lit (.string []), .lit (.int .u8 0)], [], places) :=
  ⟨[], by kernel_rfl⟩

set_option maxRecDepth 100000 in
theorem lifted (os : Os) (started : os.Started) (H : Type) (enc : TypeId × Value → H) (F : Stop.Interp) :
    ReturnsInHanded {} Tryd.checked os 8 .any ((OpenSpec.ofChange Rows.documentBlanksSpec).preRow enc Tryd.prog Tryd.f8 Rows.documentBlanksRow.domain false Rows.documentBlanksRow.laid) (((OpenSpec.ofChange Rows.documentBlanksSpec).at F).post enc Tryd.prog Tryd.f8 false true false false) := by
  obtain ⟨places, hx⟩ := reads os enc
  refine returnsInHanded_of_row (C := Tryd.checked) (s := (OpenSpec.ofChange Rows.documentBlanksSpec)) own started (by kernel_rfl) Tryd.func8
    (witness_row_at (enc := enc) (C := Tryd.checked) false (laidWorld os) argW rfl (by kernel_rfl) (by kernel_rfl) (by kernel_rfl)
      (OpenSpec.preRow_of_cond 8 hx (by kernel_rfl) (fun k hk => by cases hk) (by kernel_rfl) (laid_met os))) ?_
  intro W base args ds gs before hval hW _ hcond hsz hL hsh _
  exact contract H enc W base args ds gs before hval hW (⟨env_of hsh hL, sy_of hL⟩)

theorem said : Rows.DocumentBlanksSaid :=
  OpenClaim.holds_of_cond 8 Tryd.f8 rfl rfl rfl rfl rfl rfl rfl ⟨rfl, rfl, rfl, rfl, rfl⟩ rfl rfl rfl rfl rfl (by kernel_rfl) Tryd.func8 (by kernel_rfl)
    (of_decide_eq_true (by kernel_rfl)) (by unfold Func.isWrapper; first | (rw [if_pos (by decide +kernel)]; kernel_rfl) | (rw [if_neg (by decide +kernel)]; exact ⟨rfl, rfl⟩))
    (fun os started H enc _ F => by rw [OpenClaim.pre_eq_preRow]; exact lifted os started H enc F)

theorem plain (f : FuncId) (fn : Func) (hf : Tryd.pinned.checked.prog.funcNamed "stele/stelelaw49.DocumentBlanks" = some f) (hfn : Tryd.pinned.checked.prog.funcs[f]? = some fn) :
    true = Tryd.pinned.checked.prog.looks [] ∧ ∀ (j : Nat) t, fn.params[j]? = some t → Tryd.pinned.checked.prog.wantsStandIn t = false := by
  obtain rfl : f = 8 := Option.some.inj ((show Tryd.prog.funcNamed "stele/stelelaw49.DocumentBlanks" = some 8 by kernel_rfl).symm.trans hf) |>.symm
  obtain rfl : fn = Tryd.f8 := (Option.some.inj (Tryd.func8.symm.trans hfn)).symm
  refine ⟨by kernel_rfl, fun j t ht => ?_⟩
  rw [Tryd.params8] at ht
  have := Array.mem_of_getElem? ht
  simp only [List.mem_toArray, List.mem_cons, List.not_mem_nil, or_false] at this
  rcases this with rfl | rfl
  · exact (show Tryd.prog.wantsStandIn 9 = false by kernel_rfl)
  · exact (show Tryd.prog.wantsStandIn 5 = false by kernel_rfl)

/-- the statement -/
theorem proved : Rows.DocumentBlanksCardSaid :=
  Claim7.holds_tied_plain_at .later [] _ _ _ _ said (fun _ h => by cases h) (by kernel_rfl) (fun _ h => by cases h) documentBlanks_row_tie rfl ⟨rfl, rfl⟩ (by kernel_rfl) rfl plain (by kernel_rfl)
#print axioms proved
end Go.Proofs.YtapjhnlnfliljaaDoor.documentBlanks
