/- The walk of document.format, kinds 1, 2, 4. (Layer 49) -/
import Derived.Test.YtapjhnlnfliljaaDoorDocLaws2
namespace Go.Proofs.YtapjhnlnfliljaaDoor
open Go.RowKit
open Go.Lib hiding intOf
open Dec
set_option linter.unusedVariables false

attribute [local simp] Slots Slot look Is Oper.looksAt Op.operands Call.operands
def blkV (x : MB) : Value := .agg #[.int .i64 (x.b.kind : Int), x.vw, x.vr, .string (BA x.b.runs), .int .i64 (x.b.width : Int)]
theorem ba_cat (a b : Bytes) : BA a ++ BA b = BA (a ++ b) := by
  apply ByteArray.ext
  rw [ByteArray.data_append]
  simp [BA]
theorem joinA_bnd (sep : Bytes) (h : sep.length = 1) (l : List Bytes) : (joinA sep l).length ≤ lenS l := by
  have := joinA_len sep h l
  omega
set_option maxRecDepth 100000 in
set_option maxHeartbeats 3200000 in
theorem format_1 (x : MB) (w : World) (hm : SL w w.heap.size x.vw x.b.words) (hr : ∃ A n c, x.vr = .slice A n c) (hk : x.b.kind = 1) (hz : wtB x.b ≤ 200000) :
    Calls Tryd.prog 32 #[blkV x] w fun e w' => e = .returned (.tuple #[.string (BA ([35, 32] ++ joinA [32] x.b.words ++ [10])), .int .i64 0]) ∧ Ext w w' := by
  have hl : lenS x.b.words ≤ 200000 := by unfold wtB at hz; omega
  have hj := joinA_bnd [32] rfl x.b.words
  have hn := len_lenS x.b.words
  have HJ := Lib.hid (fun W (h : Ext w W) => joinD_any ⟨#[32]⟩ _ _ _ W (hm.ext h) (show (joinA [32] x.b.words).length ≤ _ by omega) (by omega))
  rw [show (⟨#[32]⟩ : ByteArray).data.toList = [32] from rfl] at HJ
  unfold blkV
  obtain ⟨A, n, c, hr⟩ := hr
  obtain ⟨A2, c2, hw, -⟩ := hm
  rw [hk, hr, hw]
  rw [hw] at HJ
  have HR : Hid (BA ([35, 32] ++ joinA [32] x.b.words ++ [10]) = (⟨#[35, 32]⟩ : ByteArray) ++ BA (joinA [32] x.b.words) ++ ⟨#[10]⟩) := by
    rw [← ba_cat, ← ba_cat]; rfl
  generalize hO : BA ([35, 32] ++ joinA [32] x.b.words ++ [10]) = OUT at *
  clear hO
  have hjz : (BA (joinA [32] x.b.words)).size ≤ 200000 := by rw [BA_size]; omega
  generalize BA (joinA [32] x.b.words) = J at *
  generalize x.b.words.length = n2 at *
  generalize BA x.b.runs = R at *
  generalize x.b.width = wd at *
  have hx1 : Ext w (w.alloc (.cells #[.int .i64 ((1 : Nat) : Int), .slice A2 n2 c2, .slice A n c, .string R, .int .i64 (wd : Int)] 39)) := (Ext.refl w).alloc _
  clear hl hj hn hz hk hr hw
  go_enter Tryd.func32, Tryd.ntmps32
  go_wp2_with fail
  refine (HJ.out _ hx1).mono ?_
  rintro e w2 ⟨rfl, hx2⟩
  go_wp2_with fail
  go_ret2
  exact ⟨by rw [HR.out]; rfl, hx1.trans hx2⟩
set_option maxRecDepth 100000 in
set_option maxHeartbeats 3200000 in
theorem format_2 (x : MB) (w : World) (hm : SL w w.heap.size x.vw x.b.words) (hr : ∃ A n c, x.vr = .slice A n c) (hk : x.b.kind = 2) (hz : wtB x.b ≤ 200000) :
    Calls Tryd.prog 32 #[blkV x] w fun e w' => e = .returned (.tuple #[.string (BA (joinA [32] x.b.words ++ [10])), .int .i64 0]) ∧ Ext w w' := by
  have hl : lenS x.b.words ≤ 200000 := by unfold wtB at hz; omega
  have hj := joinA_bnd [32] rfl x.b.words
  have hn := len_lenS x.b.words
  have HJ := Lib.hid (fun W (h : Ext w W) => joinD_any ⟨#[32]⟩ _ _ _ W (hm.ext h) (show (joinA [32] x.b.words).length ≤ _ by omega) (by omega))
  rw [show (⟨#[32]⟩ : ByteArray).data.toList = [32] from rfl] at HJ
  unfold blkV
  obtain ⟨A, n, c, hr⟩ := hr
  obtain ⟨A2, c2, hw, -⟩ := hm
  rw [hk, hr, hw]
  rw [hw] at HJ
  have HR : Hid (BA (joinA [32] x.b.words ++ [10]) = BA (joinA [32] x.b.words) ++ ⟨#[10]⟩) := by
    rw [← ba_cat]; rfl
  generalize hO : BA (joinA [32] x.b.words ++ [10]) = OUT at *
  clear hO
  have hjz : (BA (joinA [32] x.b.words)).size ≤ 200000 := by rw [BA_size]; omega
  generalize BA (joinA [32] x.b.words) = J at *
  generalize x.b.words.length = n2 at *
  generalize BA x.b.runs = R at *
  generalize x.b.width = wd at *
  have hx1 : Ext w (w.alloc (.cells #[.int .i64 ((2 : Nat) : Int), .slice A2 n2 c2, .slice A n c, .string R, .int .i64 (wd : Int)] 39)) := (Ext.refl w).alloc _
  clear hl hj hn hz hk hr hw
  go_enter Tryd.func32, Tryd.ntmps32
  go_wp2_with fail
  refine (HJ.out _ hx1).mono ?_
  rintro e w2 ⟨rfl, hx2⟩
  go_wp2_with fail
  go_ret2
  exact ⟨by rw [HR.out]; rfl, hx1.trans hx2⟩
theorem itoa_decD (n : Nat) : Lib.itoa (n : Int) = decDigits n := by
  unfold Lib.itoa
  rw [if_neg (by omega)]
  rfl
set_option maxRecDepth 100000 in
set_option maxHeartbeats 3200000 in
theorem format_4 (x : MB) (w : World) (hw : ∃ A n c, x.vw = .slice A n c) (hr : ∃ A n c, x.vr = .slice A n c) (hk : x.b.kind = 4) (hwd : x.b.width ≤ 200) (hz : wtB x.b ≤ 200000) (hE : Env w) :
    Calls Tryd.prog 32 #[blkV x] w fun e w' => e = .returned (.tuple #[.string (BA ([33, 32] ++ decDigits x.b.width ++ [32] ++ x.b.runs ++ [10])), .int .i64 0]) ∧ Ext w w' := by
  have hl : x.b.runs.length ≤ 200000 := by unfold wtB at hz; omega
  have hdl : (decDigits x.b.width).length ≤ 3 := dec_len (by omega)
  have HI := Lib.hid (fun W (h : Ext w W) => itoa_any (x.b.width : Int) (by omega) (by omega) W (hE.ext h))
  rw [itoa_decD] at HI
  have HR : Hid (BA ([33, 32] ++ decDigits x.b.width ++ [32] ++ x.b.runs ++ [10]) = (⟨#[33, 32]⟩ : ByteArray) ++ BA (decDigits x.b.width) ++ ⟨#[32]⟩ ++ BA x.b.runs ++ ⟨#[10]⟩) := by
    rw [← ba_cat, ← ba_cat, ← ba_cat, ← ba_cat]; rfl
  unfold blkV
  obtain ⟨A, n, c, hr⟩ := hr
  obtain ⟨A2, n2, c2, hw⟩ := hw
  rw [hk, hr, hw]
  have hjz : (BA (decDigits x.b.width)).size ≤ 3 := by rw [BA_size]; omega
  have hrz : (BA x.b.runs).size ≤ 200000 := by rw [BA_size]; omega
  generalize BA ([33, 32] ++ decDigits x.b.width ++ [32] ++ x.b.runs ++ [10]) = OUT at *
  generalize BA (decDigits x.b.width) = J at *
  generalize BA x.b.runs = R at *
  generalize x.b.width = wd at *
  have hx1 : Ext w (w.alloc (.cells #[.int .i64 ((4 : Nat) : Int), .slice A2 n2 c2, .slice A n c, .string R, .int .i64 (wd : Int)] 39)) := (Ext.refl w).alloc _
  have HB : Hid (Blk (w.alloc (.cells #[.int .i64 ((4 : Nat) : Int), .slice A2 n2 c2, .slice A n c, .string R, .int .i64 (wd : Int)] 39)) w.heap.size 39 [.int .i64 ((4 : Nat) : Int), .slice A2 n2 c2, .slice A n c, .string R, .int .i64 (wd : Int)]) := heap_alloc_new w _
  clear hl hdl hz hk hr hw
  go_enter Tryd.func32, Tryd.ntmps32
  go_wp2_with fail
  obtain ⟨W, hW⟩ : ∃ W, W = w.alloc (.cells #[.int .i64 ((4 : Nat) : Int), .slice A2 n2 c2, .slice A n c, .string R, .int .i64 (wd : Int)] 39) := ⟨_, rfl⟩
  rw [← hW] at hx1 HB
  rw [show w.alloc (.cells #[.int .i64 4, .slice A2 n2 c2, .slice A n c, .string R, .int .i64 (wd : Int)] 39) = W from hW.symm]
  clear hW
  obtain ⟨g, hg0⟩ : ∃ g, g = w.heap.size := ⟨_, rfl⟩
  rw [← hg0] at HB ⊢
  clear hg0
  refine wp_region_grow (by kernel_rfl) (by kernel_rfl) ?_
  repeat
    first
    | (apply grow_is
       case h =>
        intro a w1 hg hs hsl
        clear hs
        try simp at hsl
        obtain ⟨⟨u0, u1, u2, u3, u4⟩, -, -⟩ := five (HB.out.ext hg)
        unfold growAt guardOk
        go_simp
        try go_bits
        try simp only [↓IntWalk.iteOmega]
        first
          | exact grow_same
          | exact is_skip
          | exact rfl
          | with_reducible exact grow_call_ext (HI.out _ (hx1.trans hg)))
  refine grow_fin ?_
  intro w1 hw1
  simp only [List.reverse_cons, List.reverse_nil, List.nil_append, List.cons_append, FinT, Is, forall_eq, List.setIfInBounds_toArray, List.set_cons_succ, List.set_cons_zero]
  go_wp2_with fail
  go_ret2
  exact ⟨by rw [HR.out]; rfl, hx1.trans hw1⟩
end Go.Proofs.YtapjhnlnfliljaaDoor
