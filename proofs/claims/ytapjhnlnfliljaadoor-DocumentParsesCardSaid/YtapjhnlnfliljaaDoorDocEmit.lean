/- The closure of document.Parse: a line is added to the blocks so far (printed by bin/genemit.py). (Layer 49) -/
import Derived.Test.YtapjhnlnfliljaaDoorDocOut
import Derived.Test.YtapjhnlnfliljaaDoorDocFmtP
import Derived.Deep.AppendLies
import Derived.Deep.RegionLaw
import Derived.StillTailTactics
namespace Go.Proofs.YtapjhnlnfliljaaDoor
open Go.RowKit
open Go.Lib hiding intOf
set_option linter.unusedVariables false
set_option linter.unusedSimpArgs false

theorem blockInfo : (Tryd.prog.info? 39).map (fun i => (i.zero, i.size, i.bytes)) = some (some (.agg #[.int .i64 0, .slice none 0 0, .slice none 0 0, .string ⟨#[]⟩, .int .i64 0]), 5, 80) := by kernel_rfl
theorem rowsInfo : (Tryd.prog.info? 30).map (fun i => (i.zero, i.size, i.bytes)) = some (some (.slice none 0 0), 1, 24) := by kernel_rfl
theorem own_slice {w : World} {base : Nat} {e : TypeId} {size n : Nat} {v : Value} {xs : List Value} (h : w.ownsRow base e size v n xs) : ∃ A c, v = .slice A n c ∧ n ≤ c ∧ c ≤ 9223372036854775807 := by
  rcases h.2 with ⟨rfl, rfl⟩ | ⟨g, cap, cur, rfl, _, _, h1, h2, _⟩
  · exact ⟨none, 0, rfl, Nat.le_refl _, by omega⟩
  · unfold maxLen at h2
    exact ⟨_, cap, rfl, h1, h2⟩
theorem len_lenS (l : List Bytes) : l.length ≤ lenS l := by
  induction l with
  | nil => exact Nat.zero_le _
  | cons x l ih => rw [lenS_cons, List.length_cons]; omega
theorem sum_ge {α : Type} (f : α → Nat) (l : List α) (h : ∀ x, 1 ≤ f x) : l.length ≤ (l.map f).sum := by
  induction l with
  | nil => simp
  | cons x l ih => rw [List.map_cons, List.sum_cons, List.length_cons]; have := h x; omega
theorem sum_one {α : Type} (f : α → Nat) {l : List α} {x : α} (h : x ∈ l) : f x ≤ (l.map f).sum := by
  induction l with
  | nil => cases h
  | cons y l ih =>
    rw [List.map_cons, List.sum_cons]
    rcases List.mem_cons.1 h with rfl | h
    · omega
    · have := ih h; omega
theorem wt_words (b : DB) : b.words.length + 8 ≤ wtB b := by have := len_lenS b.words; unfold wtB; omega
theorem wt_rows (b : DB) : b.rows.length + 8 ≤ wtB b := by have := sum_ge wtR b.rows (fun r => by unfold wtR; omega); unfold wtB; omega
theorem wt_out (l : List DB) : l.length ≤ wtL l := sum_ge wtB l (fun b => by unfold wtB; omega)
theorem wt_mem {l : List DB} {x : DB} (h : x ∈ l) : wtB x ≤ wtL l := sum_one wtB h
/-- below B only the blocks pp and po may have changed -/
structure Near (B pp po : Nat) (w w' : World) : Prop where
  os : w'.os = w.os
  tape : w'.tape = w.tape
  output : w'.output = w.output
  size : w.heap.size ≤ w'.heap.size
  block : ∀ i, i < B → i ≠ pp → i ≠ po → w'.heap[i]? = w.heap[i]?
theorem Near.of {B pp po : Nat} {w w' : World} (h : Below B w w') : Near B pp po w w' := ⟨h.os, h.tape, h.output, h.size, fun i hi _ _ => h.block i hi⟩
theorem Near.setp {B pp po : Nat} {w w' : World} (h : Near B pp po w w') (u : Value) : Near B pp po w (w'.setCell ⟨pp, 0, none⟩ u) :=
  ⟨h.os, h.tape, h.output, by simp [World.setCell]; exact h.size, fun i hi h1 h2 => by rw [Below.heap_setCell _ _ _ _ h1]; exact h.block i hi h1 h2⟩
theorem Near.seto {B pp po : Nat} {w w' : World} (h : Near B pp po w w') (u : Value) : Near B pp po w (w'.setCell ⟨po, 0, none⟩ u) :=
  ⟨h.os, h.tape, h.output, by simp [World.setCell]; exact h.size, fun i hi h1 h2 => by rw [Below.heap_setCell _ _ _ _ h2]; exact h.block i hi h1 h2⟩
def EPost (B pp po : Nat) (out' : List DB) (k : Nat) (W : World) (e : Ending) (w' : World) : Prop :=
  e = .returned (.tuple #[]) ∧ ∃ ov' m', OutI w' B m' ov' out' k ∧ B ≤ m' ∧ m' ≤ w'.heap.size ∧ Blk w' pp 3 [.int .i64 (k : Int)] ∧ Blk w' po 23 [ov'] ∧ Near B pp po W w'
theorem blk_ne {w : World} {b g j : Nat} {T : TypeId} {xs : List Value} {v : Value} (h : Blk w b T xs) (hne : b ≠ g) : Blk (w.setCell ⟨g, j, none⟩ v) b T xs := by
  unfold Blk
  rw [Below.heap_setCell _ _ _ _ hne]
  exact h
theorem blk_apart {w : World} {b g : Nat} {T T' : TypeId} {xs ys : List Value} (h : Blk w b T xs) (h' : Blk w g T' ys) (hT : T ≠ T') : b ≠ g := by
  rintro rfl
  unfold Blk at h h'
  rw [h] at h'
  simp only [Option.some.injEq, Obj.cells.injEq] at h'
  exact hT h'.2.1
/-- what emit is given -/
structure EPre (W0 W : World) (B m pp po : Nat) (ov : Value) (out : List DB) (op : Nat) (b : DB) (vw vc : Value) : Prop where
  outI : OutI W0 B m ov out op
  Bm : B ≤ m
  mW : m ≤ W0.heap.size
  ext : Ext W0 W
  bpp : Blk W pp 3 [.int .i64 (op : Int)]
  bpo : Blk W po 23 [ov]
  line : LineV W W0.heap.size b vw vc
  wt : wtL out + wtB b ≤ 1000000
/-- the last store: the kind that is open -/
theorem emit_end {W W' : World} {B m pp po k k0 : Nat} {ov : Value} {out : List DB} (h : OutI W' B m ov out k) (hB : B ≤ m) (hm : m ≤ W'.heap.size) (hpp : Blk W' pp 3 [.int .i64 (k0 : Int)]) (hpo : Blk W' po 23 [ov]) (hx : Near B pp po W W') :
    EPost B pp po out k W (.returned (.tuple #[])) (W'.setCell ⟨pp, 0, none⟩ (.int .i64 (k : Int))) :=
  ⟨rfl, ov, m, h.keep (Keep.set _ _) (Off.blk hpp (by decide) (by decide) (by decide)), hB, by simp [World.setCell]; exact hm, blk_put hpp 0 _, blk_ne hpo (blk_apart hpp hpo (by decide)).symm, hx.setp _⟩
set_option maxRecDepth 100000 in
set_option maxHeartbeats 1600000 in
theorem emit_0 (W0 W : World) (B m pp po : Nat) (ov : Value) (out : List DB) (op : Nat) (A1 A2 : Option Addr) (n1 c1 n2 c2 : Nat) (h : EPre W0 W B m pp po ov out op noB (.slice A1 n1 c1) (.slice A2 n2 c2)) :
    Calls Tryd.prog 20 #[.agg #[.int .i64 0, .slice A1 n1 c1, .slice A2 n2 c2, .string ⟨#[]⟩, .int .i64 0], .pointer (some ⟨pp, 0, none⟩), .pointer (some ⟨po, 0, none⟩)] W (EPost B pp po (addA out op noB) 0 W) := by
  rw [addA_noB]
  have hBW : B ≤ W.heap.size := Nat.le_trans h.Bm (Nat.le_trans h.mW h.ext.size)
  obtain ⟨W1, hW1⟩ : ∃ W1, W1 = W.alloc (.cells #[.int .i64 0, .slice A1 n1 c1, .slice A2 n2 c2, .string ⟨#[]⟩, .int .i64 0] 42) := ⟨_, rfl⟩
  have hx1 : Ext W W1 := by rw [hW1]; exact (Ext.refl W).alloc _
  have hO := h.outI.ext (h.ext.trans hx1)
  obtain ⟨ms, g1, g2, g3⟩ := hO.close
  have hO2 := OutI.of_closed (op := 0) g2 g3 (by omega)
  rw [g1] at hO2
  have hpp := h.bpp.ext hx1
  have c0 := hpp.cell (i := 0) rfl
  have f0 := blk_free hpp 0
  have hlt := hpp.lt
  have HE := Lib.hid (emit_end (W := W) (k0 := op) hO2 (Nat.le_trans hBW hx1.size) (Nat.le_refl _) hpp (h.bpo.ext hx1) (Near.of (by rw [hW1]; exact (Below.refl B W).alloc hBW _)))
  rw [hW1] at c0 f0 hlt HE
  clear hO hO2 hpp g1 g2 g3 h hx1 hW1
  go_enter Tryd.func20, Tryd.ntmps20
  go_wp2_with fail
  exact bodyPost_ret (v := .tuple #[]) (by simp [results, Tryd.results20, go_sem]) rfl HE.out
set_option maxRecDepth 100000 in
set_option maxHeartbeats 3200000 in
theorem emit_1d (W0 W : World) (B m pp po : Nat) (ov : Value) (out : List DB) (op : Nat) (b : DB) (A1 A2 : Option Addr) (n1 c1 n2 c2 : Nat) (hk : b.kind = 1) (hop : op ≠ 1) (hbr : b.rows = []) (h : EPre W0 W B m pp po ov out op b (.slice A1 n1 c1) (.slice A2 n2 c2)) :
    Calls Tryd.prog 20 #[.agg #[.int .i64 1, .slice A1 n1 c1, .slice A2 n2 c2, .string (BA b.runs), .int .i64 (b.width : Int)], .pointer (some ⟨pp, 0, none⟩), .pointer (some ⟨po, 0, none⟩)] W (EPost B pp po (addA out op b) 1 W) := by
  have hadd : addA out op b = out ++ [b] := by unfold addA; rw [if_neg (by omega), if_neg (by omega)]
  rw [hadd]
  have hBW : B ≤ W.heap.size := Nat.le_trans h.Bm (Nat.le_trans h.mW h.ext.size)
  obtain ⟨W1, hW1⟩ : ∃ W1, W1 = (W.alloc (.cells #[.int .i64 1, .slice A1 n1 c1, .slice A2 n2 c2, .string (BA b.runs), .int .i64 (b.width : Int)] 42)).alloc (.cells #[.int .i64 1, .slice A1 n1 c1, .slice none 0 0, .string (BA b.runs), .int .i64 (b.width : Int)] 39) := ⟨_, rfl⟩
  have hx1 : Ext W W1 := by rw [hW1]; exact ((Ext.refl W).alloc _).alloc _
  have hs1 : W1.heap.size = W.heap.size + 2 := by rw [hW1]; simp
  have hWs := h.ext.size
  have hmW := h.mW
  have hBm := h.Bm
  obtain ⟨M, hM, hM0, hM1⟩ : ∃ M, M = W1.heap.size ∧ W0.heap.size ≤ M ∧ M ≤ W1.heap.size := ⟨_, rfl, by omega, by omega⟩
  obtain ⟨ms, g1, g2, g3⟩ := h.outI.close
  have hOwn := own_ext g2 (h.ext.trans hx1)
  have hcl : ∀ y ∈ ms, MOk W1 M y := fun y hy => ((g3 y hy).ext (h.ext.trans hx1)).mono hM0
  have hlast : LastOk W1 M 1 ⟨b, .slice A1 n1 c1, .slice none 0 0⟩ := by
    unfold LastOk
    rw [if_neg (by decide), if_neg (by decide)]
    refine ⟨?_, ?_⟩
    · rw [hM]
      exact ((h.line.one hk).ext hx1).top
    · show RL W1 _ _ b.rows
      rw [hbr]
      exact RL.nil _ _
  have hml : ms.length ≤ 1000000 := by
    have h1 := wt_out out
    have h2 := h.wt
    rw [← g1, List.length_map] at h1
    rw [← g1] at h2
    omega
  obtain ⟨A, c, rfl, hr, hm⟩ := own_slice hOwn
  have hpp := h.bpp.ext hx1
  have hpo := h.bpo.ext hx1
  have hppW := h.bpp.ext ((Ext.refl W).alloc (.cells #[.int .i64 1, .slice A1 n1 c1, .slice A2 n2 c2, .string (BA b.runs), .int .i64 (b.width : Int)] 42))
  have hpoW := h.bpo.ext ((Ext.refl W).alloc (.cells #[.int .i64 1, .slice A1 n1 c1, .slice A2 n2 c2, .string (BA b.runs), .int .i64 (b.width : Int)] 42))
  have c0 := hppW.cell (i := 0) rfl
  have o0 := hpoW.cell (i := 0) rfl
  have HBx : Hid (Below B W W1) := by rw [hW1]; exact ((Below.refl B W).alloc hBW _).alloc (by simp; omega) _
  obtain ⟨i0, hi, hz0, hz1, hz2⟩ := info_parts blockInfo
  obtain ⟨n, hn⟩ : ∃ n, n = ms.length := ⟨_, rfl⟩
  have HN := Lib.hid hn
  have HK := Lib.hid hk
  rw [← hn] at hml hr o0 hpo
  have HO : Hid (W1.ownsRow B 39 5 (.slice A n c) n (mcells ms)) := by
    have := hOwn
    rw [← hn] at this
    exact this
  have HCL := Lib.hid hcl
  have HLA := Lib.hid hlast
  have HPP := Lib.hid hpp
  have HPO := Lib.hid hpo
  have HG1 := Lib.hid g1
  have hBm0 : Hid (B ≤ M) := by show _ ≤ _; omega
  have hW0 : Hid (M ≤ W1.heap.size) := hM1
  have hq : (((1 : Int)) == (op : Int)) = false := by simp; omega
  clear hOwn hcl hlast hpp hpo hppW hpoW g1 g2 g3 h hx1 hn hadd hk hbr hM hM0 hM1 hWs hmW hBm hop
  go_enter Tryd.func20, Tryd.ntmps20
  rw [hW1] at HO HCL HLA HPP HPO HBx hW0
  clear hW1 hs1
  go_wp2_with (at_builtin; refine wpList_append_own _ rfl (.tmp 6) (.tmp 16) _ rfl B 39 i0 _ 5 80 Tryd.underlying23 hi hz0 hz1 hz2 rfl (by omega) _ _ _ rfl HO.out ⟨W.heap.size + 1, 0, none⟩ 1 1 [.int .i64 1, .slice A1 n1 c1, .slice none 0 0, .string (BA b.runs), .int .i64 (b.width : Int)] rfl rfl ?k1 ?k2 ?k3 ?k4 ?k5 ?_)
  case k1 =>
    intro j u hu
    match j, hu with
    | 0, hu => simp at hu; subst hu; go_cell
    | 1, hu => simp at hu; subst hu; simp [Addr.add]
    | 2, hu => simp at hu; subst hu; simp [Addr.add]
    | 3, hu => simp at hu; subst hu; simp [Addr.add]
    | 4, hu => simp at hu; subst hu; simp [Addr.add]
  case k2 => intro u hu; simp at hu; rcases hu with rfl | rfl | rfl | rfl | rfl <;> rfl
  case k3 => unfold maxLen; omega
  case k4 => omega
  case k5 => simp; omega
  intro dv' w2 hown2 hgr _
  obtain ⟨A3, c3, rfl, -, -⟩ := own_slice hown2
  have hOut := out_push (x := ⟨b, .slice A1 n1 c1, .slice none 0 0⟩) (op' := 1) (ms := ms) (by rw [← HN.out]; exact HO.out) HCL.out HLA.out (by simp; omega) hgr (by rw [← HN.out]; unfold MB.cells; dsimp only; rw [HK.out]; exact hown2)
  rw [HG1.out] at hOut
  obtain ⟨gk, hkp, hBg, hT⟩ := grown_keep HO.out hgr (by simp; omega)
  have hp2 := HPP.out.grown HO.out (by decide) hgr
  have hq2 := HPO.out.grown HO.out (by decide) hgr
  have e0 := hp2.cell (i := 0) rfl
  have e1 := hq2.cell (i := 0) rfl
  have f0 := blk_free hp2 0
  have f1 := blk_free hq2 0
  have bx0 := (Blk.grown (b := W.heap.size) (T := 42) (xs := [.int .i64 1, .slice A1 n1 c1, .slice A2 n2 c2, .string (BA b.runs), .int .i64 (b.width : Int)]) ((show Blk (W.alloc _) W.heap.size _ _ from heap_alloc_new W _).alloc _) HO.out (by decide) hgr).cell (i := 0) rfl
  have hne := blk_apart hp2 hq2 (by decide)
  have hOut2 := hOut.keep (Keep.set (b := po) 0 (.slice A3 (n + 1) c3)) (Off.blk hq2 (by decide) (by decide) (by decide))
  have hbl : Below B W w2 := HBx.out.grown hgr (by simp; omega) (fun k hk => (HO.out.lt k hk).1)
  have HE := Lib.hid (emit_end (W := W) (pp := pp) (po := po) hOut2 hBm0.out (by have := hkp.size; have h2 := hW0.out; simp [World.setCell] at this h2 ⊢; omega) (blk_ne hp2 hne) (blk_put hq2 0 (.slice A3 (n + 1) c3)) ((Near.of hbl).seto _))
  have hltb : W.heap.size < w2.heap.size := by have := hkp.size; simp at this; omega
  have hneb : W.heap.size ≠ po := fun e => by
    have h1 := hq2
    unfold Blk at h1
    have h2 := Blk.grown (b := W.heap.size) (T := 42) (xs := [.int .i64 1, .slice A1 n1 c1, .slice A2 n2 c2, .string (BA b.runs), .int .i64 (b.width : Int)]) ((show Blk (W.alloc _) W.heap.size _ _ from heap_alloc_new W _).alloc _) HO.out (by decide) hgr
    exact blk_apart hq2 h2 (by decide) e.symm
  have hnebb : ¬ po = W.heap.size := fun e => hneb e.symm
  clear hOut hOut2 hp2 hq2 hown2 hgr hkp hT HO HCL HLA HPP HPO hbl HBx
  go_wp2_with fail
  exact bodyPost_ret (v := .tuple #[]) (by simp [results, Tryd.results20, go_sem]) rfl HE.out
set_option maxRecDepth 100000 in
set_option maxHeartbeats 3200000 in
theorem emit_1s (W0 W : World) (B m pp po : Nat) (ov : Value) (out : List DB) (op : Nat) (b : DB) (A1 A2 : Option Addr) (n1 c1 n2 c2 : Nat) (hk : b.kind = 1) (hop : op = 1) (hbr : b.rows = []) (h : EPre W0 W B m pp po ov out op b (.slice A1 n1 c1) (.slice A2 n2 c2)) :
    Calls Tryd.prog 20 #[.agg #[.int .i64 1, .slice A1 n1 c1, .slice A2 n2 c2, .string (BA b.runs), .int .i64 (b.width : Int)], .pointer (some ⟨pp, 0, none⟩), .pointer (some ⟨po, 0, none⟩)] W (EPost B pp po (addA out op b) 1 W) := by
  have hadd : addA out op b = out ++ [b] := by unfold addA; rw [if_neg (by omega), if_neg (by omega)]
  rw [hadd]
  have hBW : B ≤ W.heap.size := Nat.le_trans h.Bm (Nat.le_trans h.mW h.ext.size)
  obtain ⟨W1, hW1⟩ : ∃ W1, W1 = (W.alloc (.cells #[.int .i64 1, .slice A1 n1 c1, .slice A2 n2 c2, .string (BA b.runs), .int .i64 (b.width : Int)] 42)).alloc (.cells #[.int .i64 1, .slice A1 n1 c1, .slice none 0 0, .string (BA b.runs), .int .i64 (b.width : Int)] 39) := ⟨_, rfl⟩
  have hx1 : Ext W W1 := by rw [hW1]; exact ((Ext.refl W).alloc _).alloc _
  have hs1 : W1.heap.size = W.heap.size + 2 := by rw [hW1]; simp
  have hWs := h.ext.size
  have hmW := h.mW
  have hBm := h.Bm
  obtain ⟨M, hM, hM0, hM1⟩ : ∃ M, M = W1.heap.size ∧ W0.heap.size ≤ M ∧ M ≤ W1.heap.size := ⟨_, rfl, by omega, by omega⟩
  obtain ⟨ms, g1, g2, g3⟩ := h.outI.close
  have hOwn := own_ext g2 (h.ext.trans hx1)
  have hcl : ∀ y ∈ ms, MOk W1 M y := fun y hy => ((g3 y hy).ext (h.ext.trans hx1)).mono hM0
  have hlast : LastOk W1 M 1 ⟨b, .slice A1 n1 c1, .slice none 0 0⟩ := by
    unfold LastOk
    rw [if_neg (by decide), if_neg (by decide)]
    refine ⟨?_, ?_⟩
    · rw [hM]
      exact ((h.line.one hk).ext hx1).top
    · show RL W1 _ _ b.rows
      rw [hbr]
      exact RL.nil _ _
  have hml : ms.length ≤ 1000000 := by
    have h1 := wt_out out
    have h2 := h.wt
    rw [← g1, List.length_map] at h1
    rw [← g1] at h2
    omega
  obtain ⟨A, c, rfl, hr, hm⟩ := own_slice hOwn
  have hpp := h.bpp.ext hx1
  have hpo := h.bpo.ext hx1
  have hppW := h.bpp.ext ((Ext.refl W).alloc (.cells #[.int .i64 1, .slice A1 n1 c1, .slice A2 n2 c2, .string (BA b.runs), .int .i64 (b.width : Int)] 42))
  have hpoW := h.bpo.ext ((Ext.refl W).alloc (.cells #[.int .i64 1, .slice A1 n1 c1, .slice A2 n2 c2, .string (BA b.runs), .int .i64 (b.width : Int)] 42))
  have c0 := hppW.cell (i := 0) rfl
  have o0 := hpoW.cell (i := 0) rfl
  have HBx : Hid (Below B W W1) := by rw [hW1]; exact ((Below.refl B W).alloc hBW _).alloc (by simp; omega) _
  obtain ⟨i0, hi, hz0, hz1, hz2⟩ := info_parts blockInfo
  obtain ⟨n, hn⟩ : ∃ n, n = ms.length := ⟨_, rfl⟩
  have HN := Lib.hid hn
  have HK := Lib.hid hk
  rw [← hn] at hml hr o0 hpo
  have HO : Hid (W1.ownsRow B 39 5 (.slice A n c) n (mcells ms)) := by
    have := hOwn
    rw [← hn] at this
    exact this
  have HCL := Lib.hid hcl
  have HLA := Lib.hid hlast
  have HPP := Lib.hid hpp
  have HPO := Lib.hid hpo
  have HG1 := Lib.hid g1
  have hBm0 : Hid (B ≤ M) := by show _ ≤ _; omega
  have hW0 : Hid (M ≤ W1.heap.size) := hM1
  subst hop
  have c0 : (W.alloc _).cell? ⟨pp, 0, none⟩ = some (Value.int .i64 1) := c0
  clear hOwn hcl hlast hpp hpo hppW hpoW g1 g2 g3 h hx1 hn hadd hk hbr hM hM0 hM1 hWs hmW hBm
  go_enter Tryd.func20, Tryd.ntmps20
  rw [hW1] at HO HCL HLA HPP HPO HBx hW0
  clear hW1 hs1
  go_wp2_with (at_builtin; refine wpList_append_own _ rfl (.tmp 6) (.tmp 16) _ rfl B 39 i0 _ 5 80 Tryd.underlying23 hi hz0 hz1 hz2 rfl (by omega) _ _ _ rfl HO.out ⟨W.heap.size + 1, 0, none⟩ 1 1 [.int .i64 1, .slice A1 n1 c1, .slice none 0 0, .string (BA b.runs), .int .i64 (b.width : Int)] rfl rfl ?k1 ?k2 ?k3 ?k4 ?k5 ?_)
  case k1 =>
    intro j u hu
    match j, hu with
    | 0, hu => simp at hu; subst hu; go_cell
    | 1, hu => simp at hu; subst hu; simp [Addr.add]
    | 2, hu => simp at hu; subst hu; simp [Addr.add]
    | 3, hu => simp at hu; subst hu; simp [Addr.add]
    | 4, hu => simp at hu; subst hu; simp [Addr.add]
  case k2 => intro u hu; simp at hu; rcases hu with rfl | rfl | rfl | rfl | rfl <;> rfl
  case k3 => unfold maxLen; omega
  case k4 => omega
  case k5 => simp; omega
  intro dv' w2 hown2 hgr _
  obtain ⟨A3, c3, rfl, -, -⟩ := own_slice hown2
  have hOut := out_push (x := ⟨b, .slice A1 n1 c1, .slice none 0 0⟩) (op' := 1) (ms := ms) (by rw [← HN.out]; exact HO.out) HCL.out HLA.out (by simp; omega) hgr (by rw [← HN.out]; unfold MB.cells; dsimp only; rw [HK.out]; exact hown2)
  rw [HG1.out] at hOut
  obtain ⟨gk, hkp, hBg, hT⟩ := grown_keep HO.out hgr (by simp; omega)
  have hp2 := HPP.out.grown HO.out (by decide) hgr
  have hq2 := HPO.out.grown HO.out (by decide) hgr
  have e0 := hp2.cell (i := 0) rfl
  have e1 := hq2.cell (i := 0) rfl
  have f0 := blk_free hp2 0
  have f1 := blk_free hq2 0
  have bx0 := (Blk.grown (b := W.heap.size) (T := 42) (xs := [.int .i64 1, .slice A1 n1 c1, .slice A2 n2 c2, .string (BA b.runs), .int .i64 (b.width : Int)]) ((show Blk (W.alloc _) W.heap.size _ _ from heap_alloc_new W _).alloc _) HO.out (by decide) hgr).cell (i := 0) rfl
  have hne := blk_apart hp2 hq2 (by decide)
  have hOut2 := hOut.keep (Keep.set (b := po) 0 (.slice A3 (n + 1) c3)) (Off.blk hq2 (by decide) (by decide) (by decide))
  have hbl : Below B W w2 := HBx.out.grown hgr (by simp; omega) (fun k hk => (HO.out.lt k hk).1)
  have HE := Lib.hid (emit_end (W := W) (pp := pp) (po := po) hOut2 hBm0.out (by have := hkp.size; have h2 := hW0.out; simp [World.setCell] at this h2 ⊢; omega) (blk_ne hp2 hne) (blk_put hq2 0 (.slice A3 (n + 1) c3)) ((Near.of hbl).seto _))
  have hltb : W.heap.size < w2.heap.size := by have := hkp.size; simp at this; omega
  have hneb : W.heap.size ≠ po := fun e => by
    have h1 := hq2
    unfold Blk at h1
    have h2 := Blk.grown (b := W.heap.size) (T := 42) (xs := [.int .i64 1, .slice A1 n1 c1, .slice A2 n2 c2, .string (BA b.runs), .int .i64 (b.width : Int)]) ((show Blk (W.alloc _) W.heap.size _ _ from heap_alloc_new W _).alloc _) HO.out (by decide) hgr
    exact blk_apart hq2 h2 (by decide) e.symm
  have hnebb : ¬ po = W.heap.size := fun e => hneb e.symm
  clear hOut hOut2 hp2 hq2 hown2 hgr hkp hT HO HCL HLA HPP HPO hbl HBx
  go_wp2_with fail
  exact bodyPost_ret (v := .tuple #[]) (by simp [results, Tryd.results20, go_sem]) rfl HE.out
set_option maxRecDepth 100000 in
set_option maxHeartbeats 3200000 in
theorem emit_4d (W0 W : World) (B m pp po : Nat) (ov : Value) (out : List DB) (op : Nat) (b : DB) (A1 A2 : Option Addr) (n1 c1 n2 c2 : Nat) (hk : b.kind = 4) (hop : op ≠ 4) (hbr : b.rows = []) (hbw : b.words = [] ∧ (Value.slice A1 n1 c1) = .slice none 0 0) (h : EPre W0 W B m pp po ov out op b (.slice A1 n1 c1) (.slice A2 n2 c2)) :
    Calls Tryd.prog 20 #[.agg #[.int .i64 4, .slice A1 n1 c1, .slice A2 n2 c2, .string (BA b.runs), .int .i64 (b.width : Int)], .pointer (some ⟨pp, 0, none⟩), .pointer (some ⟨po, 0, none⟩)] W (EPost B pp po (addA out op b) 4 W) := by
  have hadd : addA out op b = out ++ [b] := by unfold addA; rw [if_neg (by omega), if_neg (by omega)]
  rw [hadd]
  have hBW : B ≤ W.heap.size := Nat.le_trans h.Bm (Nat.le_trans h.mW h.ext.size)
  obtain ⟨W1, hW1⟩ : ∃ W1, W1 = (W.alloc (.cells #[.int .i64 4, .slice A1 n1 c1, .slice A2 n2 c2, .string (BA b.runs), .int .i64 (b.width : Int)] 42)).alloc (.cells #[.int .i64 4, .slice A1 n1 c1, .slice none 0 0, .string (BA b.runs), .int .i64 (b.width : Int)] 39) := ⟨_, rfl⟩
  have hx1 : Ext W W1 := by rw [hW1]; exact ((Ext.refl W).alloc _).alloc _
  have hs1 : W1.heap.size = W.heap.size + 2 := by rw [hW1]; simp
  have hWs := h.ext.size
  have hmW := h.mW
  have hBm := h.Bm
  obtain ⟨M, hM, hM0, hM1⟩ : ∃ M, M = W1.heap.size ∧ W0.heap.size ≤ M ∧ M ≤ W1.heap.size := ⟨_, rfl, by omega, by omega⟩
  obtain ⟨ms, g1, g2, g3⟩ := h.outI.close
  have hOwn := own_ext g2 (h.ext.trans hx1)
  have hcl : ∀ y ∈ ms, MOk W1 M y := fun y hy => ((g3 y hy).ext (h.ext.trans hx1)).mono hM0
  have hlast : LastOk W1 M 4 ⟨b, .slice A1 n1 c1, .slice none 0 0⟩ := by
    unfold LastOk
    rw [if_neg (by decide), if_neg (by decide)]
    refine ⟨?_, ?_⟩
    · show SL W1 _ _ b.words
      rw [hbw.1, hbw.2]
      exact SL.nil _ _
    · show RL W1 _ _ b.rows
      rw [hbr]
      exact RL.nil _ _
  have hml : ms.length ≤ 1000000 := by
    have h1 := wt_out out
    have h2 := h.wt
    rw [← g1, List.length_map] at h1
    rw [← g1] at h2
    omega
  obtain ⟨A, c, rfl, hr, hm⟩ := own_slice hOwn
  have hpp := h.bpp.ext hx1
  have hpo := h.bpo.ext hx1
  have hppW := h.bpp.ext ((Ext.refl W).alloc (.cells #[.int .i64 4, .slice A1 n1 c1, .slice A2 n2 c2, .string (BA b.runs), .int .i64 (b.width : Int)] 42))
  have hpoW := h.bpo.ext ((Ext.refl W).alloc (.cells #[.int .i64 4, .slice A1 n1 c1, .slice A2 n2 c2, .string (BA b.runs), .int .i64 (b.width : Int)] 42))
  have c0 := hppW.cell (i := 0) rfl
  have o0 := hpoW.cell (i := 0) rfl
  have HBx : Hid (Below B W W1) := by rw [hW1]; exact ((Below.refl B W).alloc hBW _).alloc (by simp; omega) _
  obtain ⟨i0, hi, hz0, hz1, hz2⟩ := info_parts blockInfo
  obtain ⟨n, hn⟩ : ∃ n, n = ms.length := ⟨_, rfl⟩
  have HN := Lib.hid hn
  have HK := Lib.hid hk
  rw [← hn] at hml hr o0 hpo
  have HO : Hid (W1.ownsRow B 39 5 (.slice A n c) n (mcells ms)) := by
    have := hOwn
    rw [← hn] at this
    exact this
  have HCL := Lib.hid hcl
  have HLA := Lib.hid hlast
  have HPP := Lib.hid hpp
  have HPO := Lib.hid hpo
  have HG1 := Lib.hid g1
  have hBm0 : Hid (B ≤ M) := by show _ ≤ _; omega
  have hW0 : Hid (M ≤ W1.heap.size) := hM1
  have hq : (((4 : Int)) == (op : Int)) = false := by simp; omega
  clear hOwn hcl hlast hpp hpo hppW hpoW g1 g2 g3 h hx1 hn hadd hk hbr hM hM0 hM1 hWs hmW hBm hop hbw
  go_enter Tryd.func20, Tryd.ntmps20
  rw [hW1] at HO HCL HLA HPP HPO HBx hW0
  clear hW1 hs1
  go_wp2_with (at_builtin; refine wpList_append_own _ rfl (.tmp 6) (.tmp 16) _ rfl B 39 i0 _ 5 80 Tryd.underlying23 hi hz0 hz1 hz2 rfl (by omega) _ _ _ rfl HO.out ⟨W.heap.size + 1, 0, none⟩ 1 1 [.int .i64 4, .slice A1 n1 c1, .slice none 0 0, .string (BA b.runs), .int .i64 (b.width : Int)] rfl rfl ?k1 ?k2 ?k3 ?k4 ?k5 ?_)
  case k1 =>
    intro j u hu
    match j, hu with
    | 0, hu => simp at hu; subst hu; go_cell
    | 1, hu => simp at hu; subst hu; simp [Addr.add]
    | 2, hu => simp at hu; subst hu; simp [Addr.add]
    | 3, hu => simp at hu; subst hu; simp [Addr.add]
    | 4, hu => simp at hu; subst hu; simp [Addr.add]
  case k2 => intro u hu; simp at hu; rcases hu with rfl | rfl | rfl | rfl | rfl <;> rfl
  case k3 => unfold maxLen; omega
  case k4 => omega
  case k5 => simp; omega
  intro dv' w2 hown2 hgr _
  obtain ⟨A3, c3, rfl, -, -⟩ := own_slice hown2
  have hOut := out_push (x := ⟨b, .slice A1 n1 c1, .slice none 0 0⟩) (op' := 4) (ms := ms) (by rw [← HN.out]; exact HO.out) HCL.out HLA.out (by simp; omega) hgr (by rw [← HN.out]; unfold MB.cells; dsimp only; rw [HK.out]; exact hown2)
  rw [HG1.out] at hOut
  obtain ⟨gk, hkp, hBg, hT⟩ := grown_keep HO.out hgr (by simp; omega)
  have hp2 := HPP.out.grown HO.out (by decide) hgr
  have hq2 := HPO.out.grown HO.out (by decide) hgr
  have e0 := hp2.cell (i := 0) rfl
  have e1 := hq2.cell (i := 0) rfl
  have f0 := blk_free hp2 0
  have f1 := blk_free hq2 0
  have bx0 := (Blk.grown (b := W.heap.size) (T := 42) (xs := [.int .i64 4, .slice A1 n1 c1, .slice A2 n2 c2, .string (BA b.runs), .int .i64 (b.width : Int)]) ((show Blk (W.alloc _) W.heap.size _ _ from heap_alloc_new W _).alloc _) HO.out (by decide) hgr).cell (i := 0) rfl
  have hne := blk_apart hp2 hq2 (by decide)
  have hOut2 := hOut.keep (Keep.set (b := po) 0 (.slice A3 (n + 1) c3)) (Off.blk hq2 (by decide) (by decide) (by decide))
  have hbl : Below B W w2 := HBx.out.grown hgr (by simp; omega) (fun k hk => (HO.out.lt k hk).1)
  have HE := Lib.hid (emit_end (W := W) (pp := pp) (po := po) hOut2 hBm0.out (by have := hkp.size; have h2 := hW0.out; simp [World.setCell] at this h2 ⊢; omega) (blk_ne hp2 hne) (blk_put hq2 0 (.slice A3 (n + 1) c3)) ((Near.of hbl).seto _))
  have hltb : W.heap.size < w2.heap.size := by have := hkp.size; simp at this; omega
  have hneb : W.heap.size ≠ po := fun e => by
    have h1 := hq2
    unfold Blk at h1
    have h2 := Blk.grown (b := W.heap.size) (T := 42) (xs := [.int .i64 4, .slice A1 n1 c1, .slice A2 n2 c2, .string (BA b.runs), .int .i64 (b.width : Int)]) ((show Blk (W.alloc _) W.heap.size _ _ from heap_alloc_new W _).alloc _) HO.out (by decide) hgr
    exact blk_apart hq2 h2 (by decide) e.symm
  have hnebb : ¬ po = W.heap.size := fun e => hneb e.symm
  clear hOut hOut2 hp2 hq2 hown2 hgr hkp hT HO HCL HLA HPP HPO hbl HBx
  go_wp2_with fail
  exact bodyPost_ret (v := .tuple #[]) (by simp [results, Tryd.results20, go_sem]) rfl HE.out
set_option maxRecDepth 100000 in
set_option maxHeartbeats 3200000 in
theorem emit_4s (W0 W : World) (B m pp po : Nat) (ov : Value) (out : List DB) (op : Nat) (b : DB) (A1 A2 : Option Addr) (n1 c1 n2 c2 : Nat) (hk : b.kind = 4) (hop : op = 4) (hbr : b.rows = []) (hbw : b.words = [] ∧ (Value.slice A1 n1 c1) = .slice none 0 0) (h : EPre W0 W B m pp po ov out op b (.slice A1 n1 c1) (.slice A2 n2 c2)) :
    Calls Tryd.prog 20 #[.agg #[.int .i64 4, .slice A1 n1 c1, .slice A2 n2 c2, .string (BA b.runs), .int .i64 (b.width : Int)], .pointer (some ⟨pp, 0, none⟩), .pointer (some ⟨po, 0, none⟩)] W (EPost B pp po (addA out op b) 4 W) := by
  have hadd : addA out op b = out ++ [b] := by unfold addA; rw [if_neg (by omega), if_neg (by omega)]
  rw [hadd]
  have hBW : B ≤ W.heap.size := Nat.le_trans h.Bm (Nat.le_trans h.mW h.ext.size)
  obtain ⟨W1, hW1⟩ : ∃ W1, W1 = (W.alloc (.cells #[.int .i64 4, .slice A1 n1 c1, .slice A2 n2 c2, .string (BA b.runs), .int .i64 (b.width : Int)] 42)).alloc (.cells #[.int .i64 4, .slice A1 n1 c1, .slice none 0 0, .string (BA b.runs), .int .i64 (b.width : Int)] 39) := ⟨_, rfl⟩
  have hx1 : Ext W W1 := by rw [hW1]; exact ((Ext.refl W).alloc _).alloc _
  have hs1 : W1.heap.size = W.heap.size + 2 := by rw [hW1]; simp
  have hWs := h.ext.size
  have hmW := h.mW
  have hBm := h.Bm
  obtain ⟨M, hM, hM0, hM1⟩ : ∃ M, M = W1.heap.size ∧ W0.heap.size ≤ M ∧ M ≤ W1.heap.size := ⟨_, rfl, by omega, by omega⟩
  obtain ⟨ms, g1, g2, g3⟩ := h.outI.close
  have hOwn := own_ext g2 (h.ext.trans hx1)
  have hcl : ∀ y ∈ ms, MOk W1 M y := fun y hy => ((g3 y hy).ext (h.ext.trans hx1)).mono hM0
  have hlast : LastOk W1 M 4 ⟨b, .slice A1 n1 c1, .slice none 0 0⟩ := by
    unfold LastOk
    rw [if_neg (by decide), if_neg (by decide)]
    refine ⟨?_, ?_⟩
    · show SL W1 _ _ b.words
      rw [hbw.1, hbw.2]
      exact SL.nil _ _
    · show RL W1 _ _ b.rows
      rw [hbr]
      exact RL.nil _ _
  have hml : ms.length ≤ 1000000 := by
    have h1 := wt_out out
    have h2 := h.wt
    rw [← g1, List.length_map] at h1
    rw [← g1] at h2
    omega
  obtain ⟨A, c, rfl, hr, hm⟩ := own_slice hOwn
  have hpp := h.bpp.ext hx1
  have hpo := h.bpo.ext hx1
  have hppW := h.bpp.ext ((Ext.refl W).alloc (.cells #[.int .i64 4, .slice A1 n1 c1, .slice A2 n2 c2, .string (BA b.runs), .int .i64 (b.width : Int)] 42))
  have hpoW := h.bpo.ext ((Ext.refl W).alloc (.cells #[.int .i64 4, .slice A1 n1 c1, .slice A2 n2 c2, .string (BA b.runs), .int .i64 (b.width : Int)] 42))
  have c0 := hppW.cell (i := 0) rfl
  have o0 := hpoW.cell (i := 0) rfl
  have HBx : Hid (Below B W W1) := by rw [hW1]; exact ((Below.refl B W).alloc hBW _).alloc (by simp; omega) _
  obtain ⟨i0, hi, hz0, hz1, hz2⟩ := info_parts blockInfo
  obtain ⟨n, hn⟩ : ∃ n, n = ms.length := ⟨_, rfl⟩
  have HN := Lib.hid hn
  have HK := Lib.hid hk
  rw [← hn] at hml hr o0 hpo
  have HO : Hid (W1.ownsRow B 39 5 (.slice A n c) n (mcells ms)) := by
    have := hOwn
    rw [← hn] at this
    exact this
  have HCL := Lib.hid hcl
  have HLA := Lib.hid hlast
  have HPP := Lib.hid hpp
  have HPO := Lib.hid hpo
  have HG1 := Lib.hid g1
  have hBm0 : Hid (B ≤ M) := by show _ ≤ _; omega
  have hW0 : Hid (M ≤ W1.heap.size) := hM1
  subst hop
  have c0 : (W.alloc _).cell? ⟨pp, 0, none⟩ = some (Value.int .i64 4) := c0
  clear hOwn hcl hlast hpp hpo hppW hpoW g1 g2 g3 h hx1 hn hadd hk hbr hM hM0 hM1 hWs hmW hBm hbw
  go_enter Tryd.func20, Tryd.ntmps20
  rw [hW1] at HO HCL HLA HPP HPO HBx hW0
  clear hW1 hs1
  go_wp2_with (at_builtin; refine wpList_append_own _ rfl (.tmp 6) (.tmp 16) _ rfl B 39 i0 _ 5 80 Tryd.underlying23 hi hz0 hz1 hz2 rfl (by omega) _ _ _ rfl HO.out ⟨W.heap.size + 1, 0, none⟩ 1 1 [.int .i64 4, .slice A1 n1 c1, .slice none 0 0, .string (BA b.runs), .int .i64 (b.width : Int)] rfl rfl ?k1 ?k2 ?k3 ?k4 ?k5 ?_)
  case k1 =>
    intro j u hu
    match j, hu with
    | 0, hu => simp at hu; subst hu; go_cell
    | 1, hu => simp at hu; subst hu; simp [Addr.add]
    | 2, hu => simp at hu; subst hu; simp [Addr.add]
    | 3, hu => simp at hu; subst hu; simp [Addr.add]
    | 4, hu => simp at hu; subst hu; simp [Addr.add]
  case k2 => intro u hu; simp at hu; rcases hu with rfl | rfl | rfl | rfl | rfl <;> rfl
  case k3 => unfold maxLen; omega
  case k4 => omega
  case k5 => simp; omega
  intro dv' w2 hown2 hgr _
  obtain ⟨A3, c3, rfl, -, -⟩ := own_slice hown2
  have hOut := out_push (x := ⟨b, .slice A1 n1 c1, .slice none 0 0⟩) (op' := 4) (ms := ms) (by rw [← HN.out]; exact HO.out) HCL.out HLA.out (by simp; omega) hgr (by rw [← HN.out]; unfold MB.cells; dsimp only; rw [HK.out]; exact hown2)
  rw [HG1.out] at hOut
  obtain ⟨gk, hkp, hBg, hT⟩ := grown_keep HO.out hgr (by simp; omega)
  have hp2 := HPP.out.grown HO.out (by decide) hgr
  have hq2 := HPO.out.grown HO.out (by decide) hgr
  have e0 := hp2.cell (i := 0) rfl
  have e1 := hq2.cell (i := 0) rfl
  have f0 := blk_free hp2 0
  have f1 := blk_free hq2 0
  have bx0 := (Blk.grown (b := W.heap.size) (T := 42) (xs := [.int .i64 4, .slice A1 n1 c1, .slice A2 n2 c2, .string (BA b.runs), .int .i64 (b.width : Int)]) ((show Blk (W.alloc _) W.heap.size _ _ from heap_alloc_new W _).alloc _) HO.out (by decide) hgr).cell (i := 0) rfl
  have hne := blk_apart hp2 hq2 (by decide)
  have hOut2 := hOut.keep (Keep.set (b := po) 0 (.slice A3 (n + 1) c3)) (Off.blk hq2 (by decide) (by decide) (by decide))
  have hbl : Below B W w2 := HBx.out.grown hgr (by simp; omega) (fun k hk => (HO.out.lt k hk).1)
  have HE := Lib.hid (emit_end (W := W) (pp := pp) (po := po) hOut2 hBm0.out (by have := hkp.size; have h2 := hW0.out; simp [World.setCell] at this h2 ⊢; omega) (blk_ne hp2 hne) (blk_put hq2 0 (.slice A3 (n + 1) c3)) ((Near.of hbl).seto _))
  have hltb : W.heap.size < w2.heap.size := by have := hkp.size; simp at this; omega
  have hneb : W.heap.size ≠ po := fun e => by
    have h1 := hq2
    unfold Blk at h1
    have h2 := Blk.grown (b := W.heap.size) (T := 42) (xs := [.int .i64 4, .slice A1 n1 c1, .slice A2 n2 c2, .string (BA b.runs), .int .i64 (b.width : Int)]) ((show Blk (W.alloc _) W.heap.size _ _ from heap_alloc_new W _).alloc _) HO.out (by decide) hgr
    exact blk_apart hq2 h2 (by decide) e.symm
  have hnebb : ¬ po = W.heap.size := fun e => hneb e.symm
  clear hOut hOut2 hp2 hq2 hown2 hgr hkp hT HO HCL HLA HPP HPO hbl HBx
  go_wp2_with fail
  exact bodyPost_ret (v := .tuple #[]) (by simp [results, Tryd.results20, go_sem]) rfl HE.out
set_option maxRecDepth 100000 in
set_option maxHeartbeats 3200000 in
theorem emit_2d (W0 W : World) (B m pp po : Nat) (ov : Value) (out : List DB) (op : Nat) (b : DB) (A1 A2 : Option Addr) (n1 c1 n2 c2 : Nat) (hk : b.kind = 2) (hop : op ≠ 2) (hbr : b.rows = []) (h : EPre W0 W B m pp po ov out op b (.slice A1 n1 c1) (.slice A2 n2 c2)) :
    Calls Tryd.prog 20 #[.agg #[.int .i64 2, .slice A1 n1 c1, .slice A2 n2 c2, .string (BA b.runs), .int .i64 (b.width : Int)], .pointer (some ⟨pp, 0, none⟩), .pointer (some ⟨po, 0, none⟩)] W (EPost B pp po (addA out op b) 2 W) := by
  have hadd : addA out op b = out ++ [b] := by unfold addA; rw [if_neg (by omega), if_neg (by omega)]
  rw [hadd]
  have hBW : B ≤ W.heap.size := Nat.le_trans h.Bm (Nat.le_trans h.mW h.ext.size)
  obtain ⟨W1, hW1⟩ : ∃ W1, W1 = (W.alloc (.cells #[.int .i64 2, .slice A1 n1 c1, .slice A2 n2 c2, .string (BA b.runs), .int .i64 (b.width : Int)] 42)).alloc (.cells #[.int .i64 2, .slice A1 n1 c1, .slice none 0 0, .string (BA b.runs), .int .i64 (b.width : Int)] 39) := ⟨_, rfl⟩
  have hx1 : Ext W W1 := by rw [hW1]; exact ((Ext.refl W).alloc _).alloc _
  have hs1 : W1.heap.size = W.heap.size + 2 := by rw [hW1]; simp
  have hWs := h.ext.size
  have hmW := h.mW
  have hBm := h.Bm
  obtain ⟨M, hM, hM0, hM1⟩ : ∃ M, M = W0.heap.size ∧ W0.heap.size ≤ M ∧ M ≤ W1.heap.size := ⟨_, rfl, by omega, by omega⟩
  obtain ⟨ms, g1, g2, g3⟩ := h.outI.close
  have hOwn := own_ext g2 (h.ext.trans hx1)
  have hcl : ∀ y ∈ ms, MOk W1 M y := fun y hy => ((g3 y hy).ext (h.ext.trans hx1)).mono hM0
  have hlast : LastOk W1 M 2 ⟨b, .slice A1 n1 c1, .slice none 0 0⟩ := by
    unfold LastOk
    rw [if_pos rfl]
    refine ⟨?_, ?_⟩
    · rw [hM]
      exact own_ext (h.line.two hk) hx1
    · show RL W1 _ _ b.rows
      rw [hbr]
      exact RL.nil _ _
  have hml : ms.length ≤ 1000000 := by
    have h1 := wt_out out
    have h2 := h.wt
    rw [← g1, List.length_map] at h1
    rw [← g1] at h2
    omega
  obtain ⟨A, c, rfl, hr, hm⟩ := own_slice hOwn
  have hpp := h.bpp.ext hx1
  have hpo := h.bpo.ext hx1
  have hppW := h.bpp.ext ((Ext.refl W).alloc (.cells #[.int .i64 2, .slice A1 n1 c1, .slice A2 n2 c2, .string (BA b.runs), .int .i64 (b.width : Int)] 42))
  have hpoW := h.bpo.ext ((Ext.refl W).alloc (.cells #[.int .i64 2, .slice A1 n1 c1, .slice A2 n2 c2, .string (BA b.runs), .int .i64 (b.width : Int)] 42))
  have c0 := hppW.cell (i := 0) rfl
  have o0 := hpoW.cell (i := 0) rfl
  have HBx : Hid (Below B W W1) := by rw [hW1]; exact ((Below.refl B W).alloc hBW _).alloc (by simp; omega) _
  obtain ⟨i0, hi, hz0, hz1, hz2⟩ := info_parts blockInfo
  obtain ⟨n, hn⟩ : ∃ n, n = ms.length := ⟨_, rfl⟩
  have HN := Lib.hid hn
  have HK := Lib.hid hk
  rw [← hn] at hml hr o0 hpo
  have HO : Hid (W1.ownsRow B 39 5 (.slice A n c) n (mcells ms)) := by
    have := hOwn
    rw [← hn] at this
    exact this
  have HCL := Lib.hid hcl
  have HLA := Lib.hid hlast
  have HPP := Lib.hid hpp
  have HPO := Lib.hid hpo
  have HG1 := Lib.hid g1
  have hBm0 : Hid (B ≤ M) := by show _ ≤ _; omega
  have hW0 : Hid (M ≤ W1.heap.size) := hM1
  have hq : (((2 : Int)) == (op : Int)) = false := by simp; omega
  clear hOwn hcl hlast hpp hpo hppW hpoW g1 g2 g3 h hx1 hn hadd hk hbr hM hM0 hM1 hWs hmW hBm hop
  go_enter Tryd.func20, Tryd.ntmps20
  rw [hW1] at HO HCL HLA HPP HPO HBx hW0
  clear hW1 hs1
  go_wp2_with (at_builtin; refine wpList_append_own _ rfl (.tmp 6) (.tmp 16) _ rfl B 39 i0 _ 5 80 Tryd.underlying23 hi hz0 hz1 hz2 rfl (by omega) _ _ _ rfl HO.out ⟨W.heap.size + 1, 0, none⟩ 1 1 [.int .i64 2, .slice A1 n1 c1, .slice none 0 0, .string (BA b.runs), .int .i64 (b.width : Int)] rfl rfl ?k1 ?k2 ?k3 ?k4 ?k5 ?_)
  case k1 =>
    intro j u hu
    match j, hu with
    | 0, hu => simp at hu; subst hu; go_cell
    | 1, hu => simp at hu; subst hu; simp [Addr.add]
    | 2, hu => simp at hu; subst hu; simp [Addr.add]
    | 3, hu => simp at hu; subst hu; simp [Addr.add]
    | 4, hu => simp at hu; subst hu; simp [Addr.add]
  case k2 => intro u hu; simp at hu; rcases hu with rfl | rfl | rfl | rfl | rfl <;> rfl
  case k3 => unfold maxLen; omega
  case k4 => omega
  case k5 => simp; omega
  intro dv' w2 hown2 hgr _
  obtain ⟨A3, c3, rfl, -, -⟩ := own_slice hown2
  have hOut := out_push (x := ⟨b, .slice A1 n1 c1, .slice none 0 0⟩) (op' := 2) (ms := ms) (by rw [← HN.out]; exact HO.out) HCL.out HLA.out (by simp; omega) hgr (by rw [← HN.out]; unfold MB.cells; dsimp only; rw [HK.out]; exact hown2)
  rw [HG1.out] at hOut
  obtain ⟨gk, hkp, hBg, hT⟩ := grown_keep HO.out hgr (by simp; omega)
  have hp2 := HPP.out.grown HO.out (by decide) hgr
  have hq2 := HPO.out.grown HO.out (by decide) hgr
  have e0 := hp2.cell (i := 0) rfl
  have e1 := hq2.cell (i := 0) rfl
  have f0 := blk_free hp2 0
  have f1 := blk_free hq2 0
  have bx0 := (Blk.grown (b := W.heap.size) (T := 42) (xs := [.int .i64 2, .slice A1 n1 c1, .slice A2 n2 c2, .string (BA b.runs), .int .i64 (b.width : Int)]) ((show Blk (W.alloc _) W.heap.size _ _ from heap_alloc_new W _).alloc _) HO.out (by decide) hgr).cell (i := 0) rfl
  have hne := blk_apart hp2 hq2 (by decide)
  have hOut2 := hOut.keep (Keep.set (b := po) 0 (.slice A3 (n + 1) c3)) (Off.blk hq2 (by decide) (by decide) (by decide))
  have hbl : Below B W w2 := HBx.out.grown hgr (by simp; omega) (fun k hk => (HO.out.lt k hk).1)
  have HE := Lib.hid (emit_end (W := W) (pp := pp) (po := po) hOut2 hBm0.out (by have := hkp.size; have h2 := hW0.out; simp [World.setCell] at this h2 ⊢; omega) (blk_ne hp2 hne) (blk_put hq2 0 (.slice A3 (n + 1) c3)) ((Near.of hbl).seto _))
  have hltb : W.heap.size < w2.heap.size := by have := hkp.size; simp at this; omega
  have hneb : W.heap.size ≠ po := fun e => by
    have h1 := hq2
    unfold Blk at h1
    have h2 := Blk.grown (b := W.heap.size) (T := 42) (xs := [.int .i64 2, .slice A1 n1 c1, .slice A2 n2 c2, .string (BA b.runs), .int .i64 (b.width : Int)]) ((show Blk (W.alloc _) W.heap.size _ _ from heap_alloc_new W _).alloc _) HO.out (by decide) hgr
    exact blk_apart hq2 h2 (by decide) e.symm
  have hnebb : ¬ po = W.heap.size := fun e => hneb e.symm
  clear hOut hOut2 hp2 hq2 hown2 hgr hkp hT HO HCL HLA HPP HPO hbl HBx
  go_wp2_with fail
  exact bodyPost_ret (v := .tuple #[]) (by simp [results, Tryd.results20, go_sem]) rfl HE.out
end Go.Proofs.YtapjhnlnfliljaaDoor
