/- Contract of loader.Pieces. (Layer 27) -/
import Derived.Test.YtlkiaeelnbjchaaDoorLdSeq
import Derived.Test.YtlkiaeelnbjchaaDoorLdRange
import Derived.Test.YtlkiaeelnbjchaaDoorPfSame
namespace Go.Proofs.YtlkiaeelnbjchaaDoor
open Go.RowKit Go.Shelf
open Go.Lib hiding intOf
set_option linter.unusedVariables false
attribute [local go_sem] Oper.semAt_some

theorem frames_any (A : Option Addr) (n cap : Nat) (arch : Nat) (w : World) :
    Calls Tryd.prog 9 #[.slice A n cap, .int .u32 arch] w fun e w' => e = .returned (.func (.func 14) #[] #[.pointer (some ⟨w.heap.size, 0, none⟩), .pointer (some ⟨w.heap.size + 1, 0, none⟩)]) ∧ w' = (w.alloc (.cells #[.slice A n cap] 22)).alloc (.cells #[.int .u32 arch] 23) := by
  go_enter Tryd.func9, Tryd.ntmps9
  go_wp2_with fail
  go_ret
  exact ⟨by simp, rfl⟩
theorem kpL_t {m b1 b2 : Nat} {A B C : World} (h : KpL m b1 b2 A B) (k : KpL m b1 b2 B C) : KpL m b1 b2 A C := ⟨h.1.trans k.1, k.2.1.trans h.2.1, k.2.2.trans h.2.2⟩
theorem kpL_b {m b1 b2 B : Nat} (h1 : m ≤ B) (h2 : b1 < B) (h3 : b2 < B) (W : World) (l : Nat) (o' : Obj) (hl : B ≤ l) (hlt : l < W.heap.size) : KpL m b1 b2 W (W.putObj l o') :=
  ⟨(Below.refl m W).grown (grownBy_putObj' W l o') (by omega) (fun k e => by cases e; omega), World.putObj_heap_other (by omega), World.putObj_heap_other (by omega)⟩
theorem kpL_a {m b1 b2 B : Nat} (h1 : m ≤ B) (h2 : b1 < B) (h3 : b2 < B) (W : World) (o : Obj) (hl : B ≤ W.heap.size) : KpL m b1 b2 W (W.alloc o) :=
  ⟨(Below.refl m W).alloc (by omega) o, Below.heap_alloc _ _ _ (by omega), Below.heap_alloc _ _ _ (by omega)⟩
def pcObj {arch : Nat} (x : GP arch) : Obj := .cells #[.int .u32 x.1.arch, .int .i64 x.1.index, .int .i64 x.1.total, .string x.1.text] 39
theorem box_same {W w1 : World} {n₀ B : Nat} {t e : TypeId} {size : Nat} {v : Value} {u : Value} {k : Nat} {xs : List Value} {tmp : Obj} (b : Nat) (hne : b ≠ B) (hb : Boxed W b t u) (hte : t ≠ e) (hrow : W.ownsRow n₀ e size v k xs)
    (hgrow : (W.alloc tmp).grownBy w1 v.ownBlock) (x : Value) : (w1.setCell ⟨B, 0, none⟩ x).heap[b]? = W.heap[b]? := by
  rw [Below.heap_setCell _ _ _ b hne]
  have h1 : Boxed w1 b t u := (hb.alloc tmp).kept hgrow (hb.not_row hte hrow)
  rw [show w1.heap[b]? = _ from h1, show W.heap[b]? = _ from hb]

end Go.Proofs.YtlkiaeelnbjchaaDoor
