/- The law BootstrapBoot of layer 28 returns true for every input and leaves its arguments as they were; the card ties the library's tables and errors to the program's text. -/
import Derived.Test.YtjmglbppmolipaaGreatDoorCards
import Derived.Test.YtjmglbppmolipaaGreatDoorTie
import Derived.Test.YtjmglbppmolipaaGreatDoorBootL7
import Derived.Test.YtjmglbppmolipaaGreatDoorPfWorld
import Derived.Test.YtjmglbppmolipaaGreatDoorOpenStrs
import Derived.ShutString
import Derived.Carry
import Derived.ChangeSame
import Derived.Deep.DeepHandedRow
import Derived.OpenShut
import Derived.ProofKit
namespace Go.Proofs.YtjmglbppmolipaaGreatDoor.bootstrapBoot
open Go.ChangeShapes Go.WideShapes Go.ChangeAt Go.RowKit
set_option linter.unusedVariables false

theorem own : ownKnob Tryz.prog.godebug = none := by kernel_rfl
theorem lay : laidOutB Tryz.prog = true := by kernel_rfl

set_option maxRecDepth 100000 in
theorem contract (H : Type) (enc : TypeId × Value → H) (W : World) (base : Nat) (args : Array Value) (ds gs : List (DataW H)) (before : List MemPlace)
    (hval : ∀ (j : Nat) t v, Tryz.f5.params[j]? = some t → args[j]? = some v → Value.okWide Tryz.prog W .any base t v)
    (hW : DataW.Whole enc Tryz.prog Tryz.f5.params.toList Rows.bootstrapBootSpec.vars false W args.toList ds gs before) (hE : Env W) :
    Calls Tryz.prog 5 args W fun e W' => ∃ v, e = .returned v ∧ Rows.bootstrapBootSpec.post enc Tryz.prog Tryz.f5 false true false false W args v W' := by
  have hlt : ∀ x ∈ before, x.block < W.heap.size := fun x hx => by simpa using hW.lt x hx
  have hW' := hW
  obtain ⟨p, q, hA0, hV, rfl, hfz, hnd⟩ := hW
  have hA : DataW.TrodAll enc Tryz.prog W 0 (fun _ => true) true Tryz.f5.params.toList args.toList ds p := hA0
  rw [Tryz.params5] at hA hval
  obtain ⟨v0, vs0, d0, ds0, p0, q0, hargs, rfl, rfl, h0, r0⟩ := trodAll_cons hA
  obtain ⟨v1, vs1, d1, ds1, p1, q1, rfl, rfl, rfl, h1, r1⟩ := trodAll_cons r0
  obtain ⟨v2, vs2, d2, ds2, p2, q2, rfl, rfl, rfl, h2, r2⟩ := trodAll_cons r1
  obtain ⟨v3, vs3, d3, ds3, p3, q3, rfl, rfl, rfl, h3, r3⟩ := trodAll_cons r2
  obtain ⟨v4, vs4, d4, ds4, p4, q4, rfl, rfl, rfl, h4, r4⟩ := trodAll_cons r3
  obtain ⟨rfl, rfl, rfl⟩ := trodAll_nil r4
  obtain rfl : args = #[v0, v1, v2, v3, v4] := by cases args; simp_all
  obtain ⟨rfl, rfl⟩ := trodVars_none hV
  have k0 := h0
  have k1 := h1
  have k2 := h2
  have k3 := h3
  have k4 := h4
  obtain ⟨a0, rfl, rfl, rfl, w0⟩ := Go.ChangeMaps.open_string Tryz.underlying9 (hval 0 9 v0 rfl rfl) h0
  obtain ⟨A1, n1, cap1, rows1, rfl, hl1, hz1, hA1⟩ := open_strs_nil (hval 1 22 v1 rfl rfl) h1
  obtain ⟨n2, rfl, rfl, rfl, w2⟩ := open_int Tryz.underlying23 (hval 2 23 v2 rfl rfl) h2
  obtain ⟨b2, rfl, hb2⟩ : ∃ m : Nat, n2 = (m : Int) ∧ m ≤ 4294967295 := by simp [Lit.wf, IntKind.min, IntKind.max, IntKind.bits, IntKind.signed] at w2; exact ⟨n2.toNat, by omega, by omega⟩
  obtain ⟨n3, rfl, rfl, rfl, w3⟩ := open_int Tryz.underlying3 (hval 3 3 v3 rfl rfl) h3
  have hI3 : -9223372036854775808 ≤ n3 ∧ n3 ≤ 9223372036854775807 := by simp [Lit.wf, IntKind.min, IntKind.max, IntKind.bits, IntKind.signed] at w3; exact ⟨by omega, by omega⟩
  obtain ⟨n4, rfl, rfl, rfl, w4⟩ := open_int Tryz.underlying5 (hval 4 5 v4 rfl rfl) h4
  obtain ⟨b4, rfl, hb4⟩ : ∃ m : Nat, n4 = (m : Int) ∧ m ≤ 255 := by simp [Lit.wf, IntKind.min, IntKind.max, IntKind.bits, IntKind.signed] at w4; exact ⟨n4.toNat, by omega, by omega⟩
  clear hA0
  refine (lawBoot_any a0 A1 n1 cap1 rows1 b2 n3 b4 W w0 hl1 hz1 hA1 (by omega) hb4 hE).mono fun e W' ⟨he, bel⟩ => ?_
  subst he
  have hsame : ∀ x ∈ (([] ++ (p1 ++ ([] ++ ([] ++ ([] ++ ([] ++ [])))))) : List MemPlace), W.sameAt W' x := fun x hx => bel.same (hlt x (by simpa using hx))
  have hargs' : ∀ sp : Nat → Bool, (∀ x ∈ (([] ++ (p1 ++ ([] ++ ([] ++ ([] ++ ([] ++ [])))))) : List MemPlace) ++ [], sp x.block = true) → DataW.TrodAll enc Tryz.prog W' 0 sp true Tryz.f5.params.toList (#[Value.string a0, Value.slice A1 n1 cap1, Value.int .u32 (b2 : Int), Value.int .i64 n3, Value.int .u8 (b4 : Int)] : Array Value).toList (Rows.bootstrapBootSpec.fn H ([.lit (.string a0.data.toList), d1, .lit (.int .u32 (b2 : Int)), .lit (.int .i64 n3), .lit (.int .u8 (b4 : Int))] ++ [])).args ((([] ++ (p1 ++ ([] ++ ([] ++ ([] ++ ([] ++ [])))))) : List MemPlace)) := by
    intro sp hsp
    rw [Tryz.params5]
    refine trodAll_cons_mk (WideElems.Trod_stays lay (by kernel_rfl) (of_decide_eq_true (by kernel_rfl)) k0 (fun x hx => by cases hx) (fun x hx => by cases hx)) ?_
    refine trodAll_cons_mk (WideElems.Trod_stays lay (by kernel_rfl) (of_decide_eq_true (by kernel_rfl)) k1 (fun x hx => hsame x (by simp [hx])) (fun x hx => hsp x (by simp [hx]))) ?_
    refine trodAll_cons_mk (WideElems.Trod_stays lay (by kernel_rfl) (of_decide_eq_true (by kernel_rfl)) k2 (fun x hx => by cases hx) (fun x hx => by cases hx)) ?_
    refine trodAll_cons_mk (WideElems.Trod_stays lay (by kernel_rfl) (of_decide_eq_true (by kernel_rfl)) k3 (fun x hx => by cases hx) (fun x hx => by cases hx)) ?_
    exact trodAll_cons_mk (WideElems.Trod_stays lay (by kernel_rfl) (of_decide_eq_true (by kernel_rfl)) k4 (fun x hx => by cases hx) (fun x hx => by cases hx)) trodAll_mk0
  exact ⟨_, rfl, _, _, _, [], _, [], hW', trodAll_cons_mk (shut_bool Tryz.underlying4 _) trodAll_mk0, hargs' _ (fun x hx => by simpa using hlt x hx), rfl, bel.frame _, fun h => by cases h⟩

def argW : Array Value := #[.string ByteArray.empty, .slice none 0 0, .int .u32 0, .int .i64 0, .int .u8 0]
theorem laid_met (os : Os) : laidMet Tryz.prog Rows.bootstrapBootRow.laid ((laidWorld os).forCall (fun _ _ => 0) ⟨#[], argW, []⟩).memory :=
  laidMet_of_run' 8 (by kernel_rfl) (by kernel_rfl)

theorem reads (os : Os) {H : Type} (enc : TypeId × Value → H) : ∃ places, DataW.whole enc Tryz.prog ((laidWorld os).forCall (fun _ _ => 0) ⟨#[], argW, []⟩).memory Tryz.f5.params.toList Rows.bootstrapBootSpec.vars false argW.toList 8 = some ([.lit (.string []), .nil, .lit (.int .u32 0), .lit (.int .i64 0), .lit (.int .u8 0)], [], places) :=
  ⟨[], by kernel_rfl⟩

set_option maxRecDepth 100000 in
theorem lifted (os : Os) (started : os.Started) (H : Type) (enc : TypeId × Value → H) (F : Stop.Interp) :
    ReturnsInHanded {} Tryz.checked os 5 .any ((OpenSpec.ofChange Rows.bootstrapBootSpec).preRow enc Tryz.prog Tryz.f5 Rows.bootstrapBootRow.domain false Rows.bootstrapBootRow.laid) (((OpenSpec.ofChange Rows.bootstrapBootSpec).at F).post enc Tryz.prog Tryz.f5 false true false false) := by
  obtain ⟨places, hx⟩ := reads os enc
  refine returnsInHanded_of_row (C := Tryz.checked) (s := (OpenSpec.ofChange Rows.bootstrapBootSpec)) own started (by kernel_rfl) Tryz.func5
    (witness_row_at (enc := enc) (C := Tryz.checked) false (laidWorld os) argW rfl (by kernel_rfl) (by kernel_rfl) (by kernel_rfl)
      (OpenSpec.preRow_of_cond 8 hx (by kernel_rfl) (fun k hk => by cases hk) (by kernel_rfl) (laid_met os))) ?_
  intro W base args ds gs before hval hW _ hcond hsz hL hsh _
  exact contract H enc W base args ds gs before hval hW (env_of hsh hL)

theorem said : Rows.BootstrapBootSaid :=
  OpenClaim.holds_of_cond 5 Tryz.f5 rfl rfl rfl rfl rfl rfl rfl ⟨rfl, rfl, rfl, rfl, rfl⟩ rfl rfl rfl rfl rfl (by kernel_rfl) Tryz.func5 (by kernel_rfl)
    (of_decide_eq_true (by kernel_rfl)) (by unfold Func.isWrapper; first | (rw [if_pos (by decide +kernel)]; kernel_rfl) | (rw [if_neg (by decide +kernel)]; exact ⟨rfl, rfl⟩))
    (fun os started H enc _ F => by rw [OpenClaim.pre_eq_preRow]; exact lifted os started H enc F)

theorem plain (f : FuncId) (fn : Func) (hf : Tryz.pinned.checked.prog.funcNamed "stele/stelelaw28.BootstrapBoot" = some f) (hfn : Tryz.pinned.checked.prog.funcs[f]? = some fn) :
    true = Tryz.pinned.checked.prog.looks [] ∧ ∀ (j : Nat) t, fn.params[j]? = some t → Tryz.pinned.checked.prog.wantsStandIn t = false := by
  obtain rfl : f = 5 := Option.some.inj ((show Tryz.prog.funcNamed "stele/stelelaw28.BootstrapBoot" = some 5 by kernel_rfl).symm.trans hf) |>.symm
  obtain rfl : fn = Tryz.f5 := (Option.some.inj (Tryz.func5.symm.trans hfn)).symm
  refine ⟨by kernel_rfl, fun j t ht => ?_⟩
  rw [Tryz.params5] at ht
  have := Array.mem_of_getElem? ht
  simp only [List.mem_toArray, List.mem_cons, List.not_mem_nil, or_false] at this
  rcases this with rfl | rfl | rfl | rfl | rfl
  · exact (show Tryz.prog.wantsStandIn 9 = false by kernel_rfl)
  · exact (show Tryz.prog.wantsStandIn 22 = false by kernel_rfl)
  · exact (show Tryz.prog.wantsStandIn 23 = false by kernel_rfl)
  · exact (show Tryz.prog.wantsStandIn 3 = false by kernel_rfl)
  · exact (show Tryz.prog.wantsStandIn 5 = false by kernel_rfl)

/-- the statement -/
theorem proved : Rows.BootstrapBootCardSaid :=
  Claim7.holds_tied_plain_at .later [] _ _ _ _ said (fun _ h => by cases h) (by kernel_rfl) (fun _ h => by cases h) bootstrapBoot_row_tie rfl ⟨rfl, rfl⟩ (by kernel_rfl) rfl plain (by kernel_rfl)
#print axioms proved
end Go.Proofs.YtjmglbppmolipaaGreatDoor.bootstrapBoot
