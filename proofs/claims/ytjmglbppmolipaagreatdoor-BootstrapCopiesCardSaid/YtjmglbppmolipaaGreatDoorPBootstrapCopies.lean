/- The law BootstrapCopies of layer 28 returns true for every input and leaves its arguments as they were; the card ties the library's tables and errors to the program's text. -/
import Derived.Test.YtjmglbppmolipaaGreatDoorCards
import Derived.Test.YtjmglbppmolipaaGreatDoorTie
import Derived.Test.YtjmglbppmolipaaGreatDoorBootL6
import Derived.Test.YtjmglbppmolipaaGreatDoorPfWorld
import Derived.Test.YtjmglbppmolipaaGreatDoorOpenStrs
import Derived.ShutString
import Derived.Carry
import Derived.ChangeSame
import Derived.Deep.DeepHandedRow
import Derived.OpenShut
import Derived.ProofKit
namespace Go.Proofs.YtjmglbppmolipaaGreatDoor.bootstrapCopies
open Go.ChangeShapes Go.WideShapes Go.ChangeAt Go.RowKit
set_option linter.unusedVariables false

theorem own : ownKnob Tryz.prog.godebug = none := by kernel_rfl
theorem lay : laidOutB Tryz.prog = true := by kernel_rfl

set_option maxRecDepth 100000 in
theorem contract (H : Type) (enc : TypeId × Value → H) (W : World) (base : Nat) (args : Array Value) (ds gs : List (DataW H)) (before : List MemPlace)
    (hval : ∀ (j : Nat) t v, Tryz.f9.params[j]? = some t → args[j]? = some v → Value.okWide Tryz.prog W .any base t v)
    (hW : DataW.Whole enc Tryz.prog Tryz.f9.params.toList Rows.bootstrapCopiesSpec.vars false W args.toList ds gs before) (hE : Env W) :
    Calls Tryz.prog 9 args W fun e W' => ∃ v, e = .returned v ∧ Rows.bootstrapCopiesSpec.post enc Tryz.prog Tryz.f9 false true false false W args v W' := by
  have hlt : ∀ x ∈ before, x.block < W.heap.size := fun x hx => by simpa using hW.lt x hx
  have hW' := hW
  obtain ⟨p, q, hA0, hV, rfl, hfz, hnd⟩ := hW
  have hA : DataW.TrodAll enc Tryz.prog W 0 (fun _ => true) true Tryz.f9.params.toList args.toList ds p := hA0
  rw [Tryz.params9] at hA hval
  obtain ⟨v0, vs0, d0, ds0, p0, q0, hargs, rfl, rfl, h0, r0⟩ := trodAll_cons hA
  obtain ⟨v1, vs1, d1, ds1, p1, q1, rfl, rfl, rfl, h1, r1⟩ := trodAll_cons r0
  obtain ⟨rfl, rfl, rfl⟩ := trodAll_nil r1
  obtain rfl : args = #[v0, v1] := by cases args; simp_all
  obtain ⟨rfl, rfl⟩ := trodVars_none hV
  have k0 := h0
  have k1 := h1
  obtain ⟨A0, n0, cap0, rows0, rfl, hl0, hz0, hA0⟩ := open_strs_nil (hval 0 22 v0 rfl rfl) h0
  obtain ⟨n1, rfl, rfl, rfl, w1⟩ := open_int Tryz.underlying23 (hval 1 23 v1 rfl rfl) h1
  obtain ⟨b1, rfl, hb1⟩ : ∃ m : Nat, n1 = (m : Int) ∧ m ≤ 4294967295 := by simp [Lit.wf, IntKind.min, IntKind.max, IntKind.bits, IntKind.signed] at w1; exact ⟨n1.toNat, by omega, by omega⟩
  clear hA0
  refine (lawCopies_any A0 n0 cap0 rows0 b1 W hl0 hz0 hA0 (by omega) hE).mono fun e W' ⟨he, bel⟩ => ?_
  subst he
  have hsame : ∀ x ∈ ((p0 ++ ([] ++ ([] ++ []))) : List MemPlace), W.sameAt W' x := fun x hx => bel.same (hlt x (by simpa using hx))
  have hargs' : ∀ sp : Nat → Bool, (∀ x ∈ ((p0 ++ ([] ++ ([] ++ []))) : List MemPlace) ++ [], sp x.block = true) → DataW.TrodAll enc Tryz.prog W' 0 sp true Tryz.f9.params.toList (#[Value.slice A0 n0 cap0, Value.int .u32 (b1 : Int)] : Array Value).toList (Rows.bootstrapCopiesSpec.fn H ([d0, .lit (.int .u32 (b1 : Int))] ++ [])).args (((p0 ++ ([] ++ ([] ++ []))) : List MemPlace)) := by
    intro sp hsp
    rw [Tryz.params9]
    refine trodAll_cons_mk (WideElems.Trod_stays lay (by kernel_rfl) (of_decide_eq_true (by kernel_rfl)) k0 (fun x hx => hsame x (by simp [hx])) (fun x hx => hsp x (by simp [hx]))) ?_
    exact trodAll_cons_mk (WideElems.Trod_stays lay (by kernel_rfl) (of_decide_eq_true (by kernel_rfl)) k1 (fun x hx => by cases hx) (fun x hx => by cases hx)) trodAll_mk0
  exact ⟨_, rfl, _, _, _, [], _, [], hW', trodAll_cons_mk (shut_bool Tryz.underlying4 _) trodAll_mk0, hargs' _ (fun x hx => by simpa using hlt x hx), rfl, bel.frame _, fun h => by cases h⟩

def argW : Array Value := #[.slice none 0 0, .int .u32 0]
theorem laid_met (os : Os) : laidMet Tryz.prog Rows.bootstrapCopiesRow.laid ((laidWorld os).forCall (fun _ _ => 0) ⟨#[], argW, []⟩).memory :=
  laidMet_of_run' 8 (by kernel_rfl) (by kernel_rfl)

theorem reads (os : Os) {H : Type} (enc : TypeId × Value → H) : ∃ places, DataW.whole enc Tryz.prog ((laidWorld os).forCall (fun _ _ => 0) ⟨#[], argW, []⟩).memory Tryz.f9.params.toList Rows.bootstrapCopiesSpec.vars false argW.toList 8 = some ([.nil, .lit (.int .u32 0)], [], places) :=
  ⟨[], by kernel_rfl⟩

set_option maxRecDepth 100000 in
theorem lifted (os : Os) (started : os.Started) (H : Type) (enc : TypeId × Value → H) (F : Stop.Interp) :
    ReturnsInHanded {} Tryz.checked os 9 .any ((OpenSpec.ofChange Rows.bootstrapCopiesSpec).preRow enc Tryz.prog Tryz.f9 Rows.bootstrapCopiesRow.domain false Rows.bootstrapCopiesRow.laid) (((OpenSpec.ofChange Rows.bootstrapCopiesSpec).at F).post enc Tryz.prog Tryz.f9 false true false false) := by
  obtain ⟨places, hx⟩ := reads os enc
  refine returnsInHanded_of_row (C := Tryz.checked) (s := (OpenSpec.ofChange Rows.bootstrapCopiesSpec)) own started (by kernel_rfl) Tryz.func9
    (witness_row_at (enc := enc) (C := Tryz.checked) false (laidWorld os) argW rfl (by kernel_rfl) (by kernel_rfl) (by kernel_rfl)
      (OpenSpec.preRow_of_cond 8 hx (by kernel_rfl) (fun k hk => by cases hk) (by kernel_rfl) (laid_met os))) ?_
  intro W base args ds gs before hval hW _ hcond hsz hL hsh _
  exact contract H enc W base args ds gs before hval hW (env_of hsh hL)

theorem said : Rows.BootstrapCopiesSaid :=
  OpenClaim.holds_of_cond 9 Tryz.f9 rfl rfl rfl rfl rfl rfl rfl ⟨rfl, rfl, rfl, rfl, rfl⟩ rfl rfl rfl rfl rfl (by kernel_rfl) Tryz.func9 (by kernel_rfl)
    (of_decide_eq_true (by kernel_rfl)) (by unfold Func.isWrapper; first | (rw [if_pos (by decide +kernel)]; kernel_rfl) | (rw [if_neg (by decide +kernel)]; exact ⟨rfl, rfl⟩))
    (fun os started H enc _ F => by rw [OpenClaim.pre_eq_preRow]; exact lifted os started H enc F)

theorem plain (f : FuncId) (fn : Func) (hf : Tryz.pinned.checked.prog.funcNamed "stele/stelelaw28.BootstrapCopies" = some f) (hfn : Tryz.pinned.checked.prog.funcs[f]? = some fn) :
    true = Tryz.pinned.checked.prog.looks [] ∧ ∀ (j : Nat) t, fn.params[j]? = some t → Tryz.pinned.checked.prog.wantsStandIn t = false := by
  obtain rfl : f = 9 := Option.some.inj ((show Tryz.prog.funcNamed "stele/stelelaw28.BootstrapCopies" = some 9 by kernel_rfl).symm.trans hf) |>.symm
  obtain rfl : fn = Tryz.f9 := (Option.some.inj (Tryz.func9.symm.trans hfn)).symm
  refine ⟨by kernel_rfl, fun j t ht => ?_⟩
  rw [Tryz.params9] at ht
  have := Array.mem_of_getElem? ht
  simp only [List.mem_toArray, List.mem_cons, List.not_mem_nil, or_false] at this
  rcases this with rfl | rfl
  · exact (show Tryz.prog.wantsStandIn 22 = false by kernel_rfl)
  · exact (show Tryz.prog.wantsStandIn 23 = false by kernel_rfl)

/-- the statement -/
theorem proved : Rows.BootstrapCopiesCardSaid :=
  Claim7.holds_tied_plain_at .later [] _ _ _ _ said (fun _ h => by cases h) (by kernel_rfl) (fun _ h => by cases h) bootstrapCopies_row_tie rfl ⟨rfl, rfl⟩ (by kernel_rfl) rfl plain (by kernel_rfl)
#print axioms proved
end Go.Proofs.YtjmglbppmolipaaGreatDoor.bootstrapCopies
