/- The examples of the chapter are answered with true. -/
import Derived.Test.YtimegcnpembhkaaDoorAsmAsm
import Derived.Test.YtimegcnpembhkaaDoorAsmDis
import Derived.Test.YtimegcnpembhkaaDoorAsmSame
namespace Go.Proofs.YtimegcnpembhkaaDoor
open Go.RowKit
open Go.Lib hiding intOf
set_option linter.unusedVariables false

def exS : Bytes := [48, 32, 38, 101, 110, 100, 32, 63, 32, 54, 53, 32, 46, 32, 101, 110, 100, 58, 32, 36]
theorem ex1 : asmA exS 10000 = ([48, 32, 48, 49, 48, 48, 49, 50, 63, 54, 53, 46, 36], [([101, 110, 100], 10012)], 0, 0) := by decide +kernel
theorem ex2 : disA [49, 50, 32, 51, 43] = ([49, 50, 32, 51, 32, 43], 0) := by decide +kernel

set_option maxRecDepth 100000 in
theorem awake_any (w : World) (hE : Env w) :
    Calls Tryd.prog 11 #[] w fun e w' => e = .returned (.bool true) ∧ Ext w w' := by
  have h1 := assemble_any (BA exS) 10000 w (by decide) hE
  rw [BA_data, ex1] at h1
  have h2 := fun W => disassemble_any (BA [49, 50, 32, 51, 43]) W (by decide)
  rw [BA_data, ex2] at h2
  unfold exS at h1
  unfold BA at h1 h2
  simp only [List.length_cons, List.length_nil, List.map_cons, List.map_nil, Nat.zero_add] at h1 h2
  have h3 := fun (A : Option Addr) (c : Nat) (W : World) h k => sameSym_any A (some ⟨W.heap.size, 0, none⟩) 1 1 c 1 [labH ([101, 110, 100], 10012)] [(⟨#[101, 110, 100]⟩, 10012)] (W.alloc (.cells #[.string ⟨#[101, 110, 100]⟩, .int .i64 10012] 30)) h k
  rw [decide_eq_true (by rfl)] at h3
  have H1 := Lib.hid h1
  have H2 := Lib.hid h2
  have H3 := Lib.hid h3
  clear h1 h2 h3
  go_enter Tryd.func11, Tryd.ntmps11
  go_wp2_with fail
  refine H1.out.mono ?_
  rintro e w1 ⟨A, cap, rfl, hl, hx1⟩
  go_wp2_with fail
  refine (H2.out _).mono ?_
  rintro e w2 ⟨rfl, hx2⟩
  go_wp2_with fail
  refine (H3.out A cap w2 ((hl.ext hx2).ext ((Ext.refl _).alloc _)) ⟨rfl, Nat.le_refl _, by decide, fun _ => ⟨_, _, rfl, fun i hi => ?_⟩⟩).mono ?_
  · obtain rfl : i = 0 := by simp at hi; exact hi
    constructor <;> simp
  rintro e w3 ⟨rfl, hx3⟩
  go_wp2_with fail
  go_ret
  exact ⟨rfl, ((hx1.trans hx2).alloc _).trans hx3⟩
end Go.Proofs.YtimegcnpembhkaaDoor
