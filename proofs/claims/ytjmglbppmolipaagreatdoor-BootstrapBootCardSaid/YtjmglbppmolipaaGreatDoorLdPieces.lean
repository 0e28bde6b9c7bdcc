/- Contract of loader.Pieces. (Layer 27) -/
import Derived.Test.YtjmglbppmolipaaGreatDoorLdSeq
import Derived.Test.YtjmglbppmolipaaGreatDoorLdRange
import Derived.Test.YtjmglbppmolipaaGreatDoorPfSame
namespace Go.Proofs.YtjmglbppmolipaaGreatDoor
open Go.RowKit Go.Shelf
open Go.Lib hiding intOf
set_option linter.unusedVariables false
attribute [local go_sem] Oper.semAt_some

theorem frames_any (A : Option Addr) (n cap : Nat) (arch : Nat) (w : World) :
    Calls Tryz.prog 39 #[.slice A n cap, .int .u32 arch] w fun e w' => e = .returned (.func (.func 64) #[] #[.pointer (some ⟨w.heap.size, 0, none⟩), .pointer (some ⟨w.heap.size + 1, 0, none⟩)]) ∧ w' = (w.alloc (.cells #[.slice A n cap] 22)).alloc (.cells #[.int .u32 arch] 23) := by
  go_enter Tryz.func39, Tryz.ntmps39
  go_wp2_with fail
  go_ret
  exact ⟨by simp, rfl⟩
theorem kpL_t {m b1 b2 : Nat} {A B C : World} (h : KpL m b1 b2 A B) (k : KpL m b1 b2 B C) : KpL m b1 b2 A C := ⟨h.1.trans k.1, k.2.1.trans h.2.1, k.2.2.trans h.2.2⟩
theorem kpL_b {m b1 b2 B : Nat} (h1 : m ≤ B) (h2 : b1 < B) (h3 : b2 < B) (W : World) (l : Nat) (o' : Obj) (hl : B ≤ l) (hlt : l < W.heap.size) : KpL m b1 b2 W (W.putObj l o') :=
  ⟨(Below.refl m W).grown (grownBy_putObj' W l o') (by omega) (fun k e => by cases e; omega), World.putObj_heap_other (by omega), World.putObj_heap_other (by omega)⟩
theorem kpL_a {m b1 b2 B : Nat} (h1 : m ≤ B) (h2 : b1 < B) (h3 : b2 < B) (W : World) (o : Obj) (hl : B ≤ W.heap.size) : KpL m b1 b2 W (W.alloc o) :=
  ⟨(Below.refl m W).alloc (by omega) o, Below.heap_alloc _ _ _ (by omega), Below.heap_alloc _ _ _ (by omega)⟩
def pcObj {arch : Nat} (x : GP arch) : Obj := .cells #[.int .u32 x.1.arch, .int .i64 x.1.index, .int .i64 x.1.total, .string x.1.text] 57
/-- the row that Pieces gathers -/
def PieI (w : World) (b0 b1 b2 : Nat) (x1 x2 : Value) {arch : Nat} (pre : List (GP arch)) (W : World) : Prop :=
  ((∃ v, Boxed W b0 42 v ∧ W.ownsRow w.heap.size 57 4 v pre.length (cellsP (pre.map Subtype.val)) ∧ True) ∧ Ext w W) ∧ Boxed W b1 22 x1 ∧ Boxed W b2 23 x2
theorem pieI_own (w : World) (b0 b1 b2 B : Nat) (x1 x2 : Value) (arch : Nat) (hB : w.heap.size ≤ B) : OwnFrom B (PieI w b0 b1 b2 x1 x2 (arch := arch)) := by
  have h1 : Own (fun (pre : List (GP arch)) (W : World) => ∃ v, Boxed W b0 42 v ∧ W.ownsRow w.heap.size 57 4 v pre.length (cellsP (pre.map Subtype.val)) ∧ True) :=
    holdsRow_own (β := List (GP arch)) w.heap.size b0 _ _ 4 (fun pre => pre.length) (fun pre => cellsP (pre.map Subtype.val)) (fun _ _ => True)
  exact ((h1.from B).and (ownFrom_below (Nat.le_refl _) hB)).and (((boxed_own b1 _ (fun _ => x1)).from B).and ((boxed_own b2 _ (fun _ => x2)).from B))
theorem box_same {W w1 : World} {n₀ B : Nat} {t e : TypeId} {size : Nat} {v : Value} {u : Value} {k : Nat} {xs : List Value} {tmp : Obj} (b : Nat) (hne : b ≠ B) (hb : Boxed W b t u) (hte : t ≠ e) (hrow : W.ownsRow n₀ e size v k xs)
    (hgrow : (W.alloc tmp).grownBy w1 v.ownBlock) (x : Value) : (w1.setCell ⟨B, 0, none⟩ x).heap[b]? = W.heap[b]? := by
  rw [Below.heap_setCell _ _ _ b hne]
  have h1 : Boxed w1 b t u := (hb.alloc tmp).kept hgrow (hb.not_row hte hrow)
  rw [show w1.heap[b]? = _ from h1, show W.heap[b]? = _ from hb]

set_option maxHeartbeats 4000000 in
set_option maxRecDepth 100000 in
theorem pieces_any (A : Option Addr) (n cap arch : Nat) (rows : List ByteArray) (w : World) (hE : Env w) (ha : arch < 4294967296) (hl : Lst w A n cap (rows.map Value.string)) (hz : ∀ s ∈ rows, s.size ≤ 1000000000) (hN : (framesL rows arch).length ≤ 1000000) :
    Calls Tryz.prog 21 #[.slice A n cap, .int .u32 arch] w fun e w' => ∃ v, e = .returned v ∧ w'.ownsRow w.heap.size 57 4 v (framesL rows arch).length (cellsP (framesL rows arch)) ∧ Ext w w' := by
  obtain ⟨i0, hi0, hz0, hz1, hz2⟩ := info_parts plainInfo
  refine (callsIn_wide (n := 3)).1 ?_
  refine callsIn_of_wp_marks Tryz.func21 rfl trivial ?_ rfl
  simp only [Tryz.ntmps21, List.size_toArray, List.length_cons, List.length_nil, Nat.reduceAdd, Nat.reduceSub, Array.replicate_succ, Array.replicate_zero, List.push_toArray, List.append_toArray, List.nil_append, List.cons_append]
  refine wpIn_wide.2 ?_
  go_wp2_with fail
  refine (frames_any _ _ _ _ _).mono ?_
  rintro e w1 ⟨rfl, rfl⟩
  go_wp2_with fail
  have hx3 : Ext w (((w.alloc (.cells #[.slice none 0 0] 42)).alloc (.cells #[.slice A n cap] 22)).alloc (.cells #[.int .u32 arch] 23)) := (((Ext.refl w).alloc _).alloc _).alloc _
  have hb0 : Boxed (((w.alloc (.cells #[.slice none 0 0] 42)).alloc (.cells #[.slice A n cap] 22)).alloc (.cells #[.int .u32 arch] 23)) w.heap.size 42 (.slice none 0 0) := ((Boxed.new w _ _).alloc _).alloc _
  have hb1 : Boxed (((w.alloc (.cells #[.slice none 0 0] 42)).alloc (.cells #[.slice A n cap] 22)).alloc (.cells #[.int .u32 arch] 23)) (w.heap.size + 1) 22 (.slice A n cap) := by
    have := (Boxed.new (w.alloc (.cells #[.slice none 0 0] 42)) 22 (.slice A n cap)).alloc (.cells #[.int .u32 arch] 23)
    rwa [World.size_alloc] at this
  have hb2 : Boxed (((w.alloc (.cells #[.slice none 0 0] 42)).alloc (.cells #[.slice A n cap] 22)).alloc (.cells #[.int .u32 arch] 23)) (w.heap.size + 1 + 1) 23 (.int .u32 arch) := by
    have := Boxed.new ((w.alloc (.cells #[.slice none 0 0] 42)).alloc (.cells #[.slice A n cap] 22)) 23 (.int .u32 arch)
    rwa [World.size_alloc, World.size_alloc] at this
  have hsz : (((w.alloc (.cells #[.slice none 0 0] 42)).alloc (.cells #[.slice A n cap] 22)).alloc (.cells #[.int .u32 arch] 23)).heap.size = w.heap.size + 3 := by simp
  have hseq := frames_seq w _ (w.heap.size + 1) (w.heap.size + 1 + 1) n cap arch A rows hE hx3 ha hb1 hb2 hl hz 2
  generalize ((w.alloc (.cells #[.slice none 0 0] 42)).alloc (.cells #[.slice A n cap] 22)).alloc (.cells #[.int .u32 arch] 23) = W1 at *
  have hbase : w.heap.size ≤ W1.heap.size := by omega
  have HSEQ := Lib.hid hseq
  clear hseq
  refine wpIn_wide.1 (wpIn_rangeFunc_laid (F := Fence.wide) (n := 3) rfl (by omega) (gf := 64) (lb := #[.pointer (some ⟨w.heap.size + 1, 0, none⟩), .pointer (some ⟨w.heap.size + 1 + 1, 0, none⟩)]) rfl trivial (enters_of Tryz.func64 (by kernel_rfl) rfl)
    HSEQ.out kpL_t (fun W l o' h1 h2 => kpL_b hbase (by omega) (by omega) W l o' h1 h2) (fun W o h => kpL_a hbase (by omega) (by omega) W o h) (Below.refl _ _) (fun _ => rfl)
    (PieI w w.heap.size (w.heap.size + 1) (w.heap.size + 1 + 1) (.slice A n cap) (.int .u32 arch)) (fun _ _ => False) (pieI_own w _ _ _ _ _ _ arch hbase) (fun _ _ _ _ h => h.elim) ⟨⟨⟨_, hb0, World.ownsRow_nil _ _ _ _, trivial⟩, hx3⟩, hb1, hb2⟩ pcObj
    (fun x b => { tmps := #[.slice A n cap, .int .u32 arch, undef, undef, .slice none 0 0, .pointer (some ⟨w.heap.size, 0, none⟩), .pointer (some ⟨b, 0, none⟩), .slice A n cap, .int .u32 arch, .func (.func 64) #[] #[.pointer (some ⟨w.heap.size + 1, 0, none⟩), .pointer (some ⟨w.heap.size + 1 + 1, 0, none⟩)], x.1.val, undef, undef, undef, undef, undef], defers := [] })
    ?assign ?body (fun _ => rfl) ?done (fun _ _ _ _ _ h => h.elim))
  case assign =>
    intro l x W K hK
    unfold encP Pc.val
    unfold pcObj Pc.val at hK
    gi_wp2
    exact hK
  case body =>
    rintro l pre x W b ⟨⟨⟨v, hv, hr, -⟩, hx⟩, hq1, hq2⟩ hlen hb hbx
    obtain ⟨⟨xa, xi, xt, xs⟩, hxa, hxc⟩ := x
    obtain ⟨p0, p1, p2, p3, -⟩ := four (show Blk W b 57 [.int .u32 xa, .int .i64 xi, .int .i64 xt, .string xs] from hbx)
    have hvc := hv.cell
    have hvf := hv.frozen
    have HV := Lib.hid hv
    have HR := Lib.hid hr
    have hs0 := hx.size
    have hpl : pre.length ≤ 1000000 := by omega
    clear hv hr hbx
    unfold Pc.val
    have hi := hi0
    gi_wp2_with (gi_at_builtin; refine wpListIn_append_own _ rfl (.tmp 11) (.tmp 13) _ rfl w.heap.size 57 i0 _ 4 40 Tryz.underlying42 hi hz0 hz1 hz2 rfl (by omega) _ _ _ rfl (HR.out.alloc _) ⟨W.heap.size, 0, none⟩ 1 1 [.int .u32 xa, .int .i64 xi, .int .i64 xt, .string xs] rfl rfl ?c1 ?c2 ?c3 ?c4 ?c5 ?_)
    case c2 => exact ⟨rfl, rfl, rfl, rfl⟩
    case c3 => unfold maxLen; omega
    case c4 => omega
    case c5 => first | omega | (simp; omega)
    intro v' w2 hown' hgrow _
    obtain ⟨a1, a2, a3, a4, a5⟩ := Boxed.appended HV.out (by decide) HR.out hs0 (Nat.le_refl _) hown' hgrow
    obtain ⟨g, c, rfl⟩ := ownsRow_succ hown'
    have s1 := box_same (w.heap.size + 1) (B := w.heap.size) (by omega) hq1 (by decide) HR.out hgrow (.slice (some ⟨g, 0, none⟩) (pre.length + 1) c)
    have s2 := box_same (w.heap.size + 1 + 1) (B := w.heap.size) (by omega) hq2 (by decide) HR.out hgrow (.slice (some ⟨g, 0, none⟩) (pre.length + 1) c)
    have d1 := a1.cell
    have d2 := a1.frozen
    have A2 := Lib.hid a2
    have A3 := Lib.hid a3
    have A4 := Lib.hid a4
    have A5 := Lib.hid a5
    have S1 := Lib.hid s1
    have S2 := Lib.hid s2
    have Q1 := Lib.hid hq1
    have Q2 := Lib.hid hq2
    clear a1 a2 a3 a4 a5 s1 s2 hq1 hq2 hown' hgrow hvc hvf
    gi_wp2
    refine ⟨A4.out.from _, ⟨A5.out, S1.out, S2.out⟩, ⟨⟨_, A2.out, ?_, trivial⟩, Below.trans hx A5.out⟩, S1.out.trans Q1.out, S2.out.trans Q2.out⟩
    rw [List.length_append, List.map_append, List.map_cons, List.map_nil, cellsP_snoc]
    exact A3.out
  case done =>
    rintro D xs W hD hS ⟨⟨⟨v, hv, hr, -⟩, hx⟩, -, -⟩ hK
    have hxl : xs.length = (framesL rows arch).length := by rw [← hS, List.length_map]
    have hxm : xs.map Subtype.val = framesL rows arch := hS
    rw [hxl, hxm] at hr
    have hvc := hv.cell
    have HR := Lib.hid hr
    have HK := Lib.hid hK
    have hD2 : w.heap.size ≤ D := by omega
    clear hv hr hK hxl hxm hS hD
    go_wp2_with fail
    refine ⟨by simp, .inl ⟨_, _, rfl, run_takeDeferred HK.out, ?_⟩⟩
    refine ⟨v, by simp [results, Tryz.results21, go_sem], v, rfl, ownsRow_putObj HR.out _ HK.out rfl, ?_⟩
    exact Below.trans hx (belowK_b (w := w) (Nat.le_refl _) W D _ _ hD2 HK.out rfl rfl)
end Go.Proofs.YtjmglbppmolipaaGreatDoor
