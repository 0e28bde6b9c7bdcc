/- The law AssemblerJump of layer 18 returns true for every input and leaves its arguments as they were; the card ties the library's tables to the program's text. -/
import Derived.Test.YtimegcnpembhkaaDoorCards
import Derived.Test.YtimegcnpembhkaaDoorTie
import Derived.Test.YtimegcnpembhkaaDoorJump
import Derived.Test.YtimegcnpembhkaaDoorOpenU8s
import Derived.Test.YtimegcnpembhkaaDoorAsmWorld
import Derived.ShutString
import Derived.Carry
import Derived.ChangeSame
import Derived.Deep.DeepHandedRow
import Derived.OpenShut
import Derived.ProofKit
namespace Go.Proofs.YtimegcnpembhkaaDoor.assemblerJump
open Go.ChangeShapes Go.WideShapes Go.ChangeAt Go.RowKit
set_option linter.unusedVariables false

theorem own : ownKnob Tryd.prog.godebug = none := by kernel_rfl
theorem lay : laidOutB Tryd.prog = true := by kernel_rfl

set_option maxRecDepth 100000 in
theorem contract (H : Type) (enc : TypeId × Value → H) (W : World) (base : Nat) (args : Array Value) (ds gs : List (DataW H)) (before : List MemPlace)
    (hval : ∀ (j : Nat) t v, Tryd.f10.params[j]? = some t → args[j]? = some v → Value.okWide Tryd.prog W .any base t v)
    (hW : DataW.Whole enc Tryd.prog Tryd.f10.params.toList Rows.assemblerJumpSpec.vars false W args.toList ds gs before) (hE : Env W) :
    Calls Tryd.prog 10 args W fun e W' => ∃ v, e = .returned v ∧ Rows.assemblerJumpSpec.post enc Tryd.prog Tryd.f10 false true false false W args v W' := by
  have hlt : ∀ x ∈ before, x.block < W.heap.size := fun x hx => by simpa using hW.lt x hx
  have hW' := hW
  obtain ⟨p, q, hA0, hV, rfl, hfz, hnd⟩ := hW
  have hA : DataW.TrodAll enc Tryd.prog W 0 (fun _ => true) true Tryd.f10.params.toList args.toList ds p := hA0
  rw [Tryd.params10] at hA hval
  obtain ⟨v0, vs0, d0, ds0, p0, q0, hargs, rfl, rfl, h0, r0⟩ := trodAll_cons hA
  obtain ⟨v1, vs1, d1, ds1, p1, q1, rfl, rfl, rfl, h1, r1⟩ := trodAll_cons r0
  obtain ⟨v2, vs2, d2, ds2, p2, q2, rfl, rfl, rfl, h2, r2⟩ := trodAll_cons r1
  obtain ⟨rfl, rfl, rfl⟩ := trodAll_nil r2
  obtain rfl : args = #[v0, v1, v2] := by cases args; simp_all
  obtain ⟨rfl, rfl⟩ := trodVars_none hV
  have k0 := h0
  have k1 := h1
  have k2 := h2
  obtain ⟨A, n, cap, l, rfl, hl, hnil⟩ := open_u8s (hval 0 43 v0 rfl rfl) h0
  obtain ⟨a1, rfl, rfl, rfl, w1⟩ := Go.ChangeMaps.open_string Tryd.underlying9 (hval 1 9 v1 rfl rfl) h1
  obtain ⟨a2, rfl, rfl, rfl, w2⟩ := open_int Tryd.underlying3 (hval 2 3 v2 rfl rfl) h2
  clear hA0
  refine (jump_any l a1 a2 A n cap W hl hnil w1 hE).mono fun e W' ⟨he, bel⟩ => ?_
  subst he
  have hsame : ∀ x ∈ ((p0 ++ ([] ++ ([] ++ ([] ++ [])))) : List MemPlace), W.sameAt W' x := fun x hx => bel.same (hlt x (by simpa using hx))
  have hargs' : ∀ sp : Nat → Bool, (∀ x ∈ ((p0 ++ ([] ++ ([] ++ ([] ++ [])))) : List MemPlace) ++ [], sp x.block = true) → DataW.TrodAll enc Tryd.prog W' 0 sp true Tryd.f10.params.toList (#[Value.slice A n cap, Value.string a1, Value.int .i64 a2] : Array Value).toList (Rows.assemblerJumpSpec.fn H ([d0, .lit (.string a1.data.toList), .lit (.int .i64 a2)] ++ [])).args (((p0 ++ ([] ++ ([] ++ ([] ++ [])))) : List MemPlace)) := by
    intro sp hsp
    rw [Tryd.params10]
    refine trodAll_cons_mk (WideElems.Trod_stays lay (by kernel_rfl) (of_decide_eq_true (by kernel_rfl)) k0 (fun x hx => hsame x (by simp [hx])) (fun x hx => hsp x (by simp [hx]))) ?_
    refine trodAll_cons_mk (WideElems.Trod_stays lay (by kernel_rfl) (of_decide_eq_true (by kernel_rfl)) k1 (fun x hx => by cases hx) (fun x hx => by cases hx)) ?_
    exact trodAll_cons_mk (WideElems.Trod_stays lay (by kernel_rfl) (of_decide_eq_true (by kernel_rfl)) k2 (fun x hx => by cases hx) (fun x hx => by cases hx)) trodAll_mk0
  exact ⟨_, rfl, _, _, _, [], _, [], hW', trodAll_cons_mk (shut_bool Tryd.underlying4 _) trodAll_mk0, hargs' _ (fun x hx => by simpa using hlt x hx), rfl, bel.frame _, fun h => by cases h⟩

def argW : Array Value := #[.slice none 0 0, .string ByteArray.empty, .int .i64 0]
theorem laid_met (os : Os) : laidMet Tryd.prog Rows.assemblerJumpRow.laid ((laidWorld os).forCall (fun _ _ => 0) ⟨#[], argW, []⟩).memory :=
  laidMet_of_run' 8 (by kernel_rfl) (by kernel_rfl)

theorem reads (os : Os) {H : Type} (enc : TypeId × Value → H) : ∃ places, DataW.whole enc Tryd.prog ((laidWorld os).forCall (fun _ _ => 0) ⟨#[], argW, []⟩).memory Tryd.f10.params.toList Rows.assemblerJumpSpec.vars false argW.toList 8 = some ([.nil, .lit (.string []), .lit (.int .i64 0)], [], places) :=
  ⟨[], by kernel_rfl⟩

set_option maxRecDepth 100000 in
theorem lifted (os : Os) (started : os.Started) (H : Type) (enc : TypeId × Value → H) (F : Stop.Interp) :
    ReturnsInHanded {} Tryd.checked os 10 .any ((OpenSpec.ofChange Rows.assemblerJumpSpec).preRow enc Tryd.prog Tryd.f10 Rows.assemblerJumpRow.domain false Rows.assemblerJumpRow.laid) (((OpenSpec.ofChange Rows.assemblerJumpSpec).at F).post enc Tryd.prog Tryd.f10 false true false false) := by
  obtain ⟨places, hx⟩ := reads os enc
  refine returnsInHanded_of_row (C := Tryd.checked) (s := (OpenSpec.ofChange Rows.assemblerJumpSpec)) own started (by kernel_rfl) Tryd.func10
    (witness_row_at (enc := enc) (C := Tryd.checked) false (laidWorld os) argW rfl (by kernel_rfl) (by kernel_rfl) (by kernel_rfl)
      (OpenSpec.preRow_of_cond 8 hx (by kernel_rfl) (fun k hk => by cases hk) (by kernel_rfl) (laid_met os))) ?_
  intro W base args ds gs before hval hW _ hcond hsz hL hsh _
  exact contract H enc W base args ds gs before hval hW (env_of hsh hL)

theorem said : Rows.AssemblerJumpSaid :=
  OpenClaim.holds_of_cond 10 Tryd.f10 rfl rfl rfl rfl rfl rfl rfl ⟨rfl, rfl, rfl, rfl, rfl⟩ rfl rfl rfl rfl rfl (by kernel_rfl) Tryd.func10 (by kernel_rfl)
    (of_decide_eq_true (by kernel_rfl)) (by unfold Func.isWrapper; first | (rw [if_pos (by decide +kernel)]; kernel_rfl) | (rw [if_neg (by decide +kernel)]; exact ⟨rfl, rfl⟩))
    (fun os started H enc _ F => by rw [OpenClaim.pre_eq_preRow]; exact lifted os started H enc F)

theorem plain (f : FuncId) (fn : Func) (hf : Tryd.pinned.checked.prog.funcNamed "stele/stelelaw18.AssemblerJump" = some f) (hfn : Tryd.pinned.checked.prog.funcs[f]? = some fn) :
    true = Tryd.pinned.checked.prog.looks [] ∧ ∀ (j : Nat) t, fn.params[j]? = some t → Tryd.pinned.checked.prog.wantsStandIn t = false := by
  obtain rfl : f = 10 := Option.some.inj ((show Tryd.prog.funcNamed "stele/stelelaw18.AssemblerJump" = some 10 by kernel_rfl).symm.trans hf) |>.symm
  obtain rfl : fn = Tryd.f10 := (Option.some.inj (Tryd.func10.symm.trans hfn)).symm
  refine ⟨by kernel_rfl, fun j t ht => ?_⟩
  rw [Tryd.params10] at ht
  have := Array.mem_of_getElem? ht
  simp only [List.mem_toArray, List.mem_cons, List.not_mem_nil, or_false] at this
  rcases this with rfl | rfl | rfl
  · exact (show Tryd.prog.wantsStandIn 43 = false by kernel_rfl)
  · exact (show Tryd.prog.wantsStandIn 9 = false by kernel_rfl)
  · exact (show Tryd.prog.wantsStandIn 3 = false by kernel_rfl)

/-- the statement -/
theorem proved : Rows.AssemblerJumpCardSaid :=
  Claim7.holds_tied_plain_at .later [] _ _ _ _ said (fun _ h => by cases h) (by kernel_rfl) (fun _ h => by cases h) assemblerJump_row_tie rfl ⟨rfl, rfl⟩ (by kernel_rfl) rfl plain (by kernel_rfl)
#print axioms proved
end Go.Proofs.YtimegcnpembhkaaDoor.assemblerJump
