/- The closure of document.Parse: rows and open paragraphs; at every line. (Layer 49) -/
import Derived.Test.YtapjhnlnfliljaaDoorDocEmit
namespace Go.Proofs.YtapjhnlnfliljaaDoor
open Go.RowKit
open Go.Lib hiding intOf
set_option linter.unusedVariables false
set_option linter.unusedSimpArgs false

theorem grown_far {W W2 : World} {B m g cap n n' : Nat} {e : TypeId} {xs ys : List Value} {v : Value} (hown : W.ownsRow B 39 5 (.slice (some ⟨g, 0, none⟩) n cap) n xs) (hn : 0 < n) (h9 : W.ownsRow m e 1 v n' ys) (he : e ≠ 39) (hgr : W.grownBy W2 v.ownBlock) :
    (∀ j x, xs[j]? = some x → W2.cell? ⟨g, j, none⟩ = some x) ∧ ∀ j, W2.frozen? ⟨g, j, none⟩ = false := by
  obtain ⟨g', cap', e1, -, -, k3, k4, k5, ⟨cs, k6⟩, -⟩ := own_put hown hn
  have e2 : g' = g := by injection e1 with e1; injection e1 with e1; injection e1 with e1; exact e1.symm
  subst e2
  have hlt := heap_lt k6
  have hne : some g' ≠ v.ownBlock := fun e3 => by
    obtain ⟨-, cs2, h2⟩ := own_at h9 e3.symm
    rw [k6] at h2
    simp only [Option.some.injEq, Obj.cells.injEq] at h2
    exact he h2.2.1.symm
  have hb : W2.heap[g']? = W.heap[g']? := hgr.block g' hlt hne
  refine ⟨fun j x hx => ?_, fun j => ?_⟩
  · have := k4 j x hx
    unfold World.cell? at this ⊢
    rw [hb]; exact this
  · exact Lib.frozen_of_heap (by rw [hb]; exact k6) j
theorem own_apart {w : World} {B g p n cap : Nat} {T : TypeId} {xs ys : List Value} (h : w.ownsRow B 39 5 (.slice (some ⟨g, 0, none⟩) n cap) n xs) (hb : Blk w p T ys) (hT : T ≠ 39) : p ≠ g := by
  rintro rfl
  obtain ⟨-, cs, h2⟩ := own_at h rfl
  unfold Blk at hb
  rw [hb] at h2
  simp only [Option.some.injEq, Obj.cells.injEq] at h2
  exact hT h2.2.1
set_option maxRecDepth 100000 in
set_option maxHeartbeats 3200000 in
theorem emit_2s (W0 W : World) (B m pp po : Nat) (ov : Value) (out : List DB) (b : DB) (A1 A2 : Option Addr) (n1 c1 n2 c2 : Nat) (hk : b.kind = 2) (hne : out ≠ []) (hbr : b.rows = []) (hbw : b.words ≠ []) (h : EPre W0 W B m pp po ov out 2 b (.slice A1 n1 c1) (.slice A2 n2 c2)) :
    Calls Tryd.prog 20 #[.agg #[.int .i64 2, .slice A1 n1 c1, .slice A2 n2 c2, .string (BA b.runs), .int .i64 (b.width : Int)], .pointer (some ⟨pp, 0, none⟩), .pointer (some ⟨po, 0, none⟩)] W (EPost B pp po (addA out 2 b) 2 W) := by
  have hBW : B ≤ W.heap.size := Nat.le_trans h.Bm (Nat.le_trans h.mW h.ext.size)
  obtain ⟨W1, hW1⟩ : ∃ W1, W1 = W.alloc (.cells #[.int .i64 2, .slice A1 n1 c1, .slice A2 n2 c2, .string (BA b.runs), .int .i64 (b.width : Int)] 42) := ⟨_, rfl⟩
  have hx1 : Ext W W1 := by rw [hW1]; exact (Ext.refl W).alloc _
  have hs1 : W1.heap.size = W.heap.size + 1 := by rw [hW1]; simp
  have hx01 := h.ext.trans hx1
  obtain ⟨ms, g1, g2, g3, g4⟩ := h.outI
  rcases List.eq_nil_or_concat ms with rfl | ⟨init, x, rfl⟩
  · exact absurd g1.symm hne
  rw [List.concat_eq_append] at g1 g2 g3 g4
  have g4 := (g4 x (by simp)).ext hx01
  have hcl : ∀ y ∈ init, MOk W1 m y := fun y hy => (g3 y (by rw [List.dropLast_concat]; exact hy)).ext hx01
  have hOwn := own_ext g2 hx01
  have hlast := g4
  unfold LastOk at hlast
  rw [if_pos rfl] at hlast
  have hwo := hlast.1
  have hadd : addA out 2 b = init.map MB.b ++ [mergeA x.b b] := by
    unfold addA
    rw [if_neg (by omega), if_pos ⟨hk, .inl rfl⟩, ← g1, List.map_append]
    simp
  rw [hadd]
  have hwt : x.b.words.length + b.words.length ≤ 1000000 ∧ init.length ≤ 1000000 := by
    have h0 := h.wt
    have h1 := wt_out out
    have h2 : wtB x.b ≤ wtL out := wt_mem (by rw [← g1]; simp)
    have h3 := wt_words x.b
    have h4 := wt_words b
    rw [← g1, List.length_map, List.length_append] at h1
    rw [← g1] at h0 h2
    omega
  obtain ⟨hwt1, hwt2⟩ := hwt
  have hline := own_ext (h.line.two hk) hx1
  obtain ⟨gw, cw, ew, kw1, kw2, -, kw4, -, -, -⟩ := own_put hline (List.length_pos_iff.2 hbw)
  injection ew with ew1 ew2 ew3
  subst ew1 ew2 ew3
  have hll : (init ++ [x]).length = init.length + 1 := by simp
  rw [hll] at hOwn
  obtain ⟨gb, cb, eb, kb1, kb2, -, kb4, kb5, -, -⟩ := own_put hOwn (by omega)
  subst eb
  obtain ⟨Ax, cx, ex, kx1, kx2⟩ := own_slice hwo
  have hbl := List.length_pos_iff.2 hbw
  have hd1 := kb4 (init.length * 5 + 1) x.vw (mcells_get (init ++ [x]) init.length 1 x _ (by simp) rfl)
  rw [ex] at hd1 hwo
  have hpp := h.bpp.ext hx1
  have hpo := h.bpo.ext hx1
  have c0 : W1.cell? ⟨pp, 0, none⟩ = some (.int .i64 2) := hpp.cell (i := 0) rfl
  have o0 := hpo.cell (i := 0) rfl
  have HBx : Hid (Below B W W1) := by rw [hW1]; exact (Below.refl B W).alloc hBW _
  obtain ⟨i0, hi, hz0, hz1, hz2⟩ := info_parts strInfoD
  have hmW1 : m ≤ W1.heap.size := Nat.le_trans h.mW hx01.size
  obtain ⟨nx, hnx⟩ : ∃ n, n = x.b.words.length := ⟨_, rfl⟩
  obtain ⟨nb, hnb⟩ : ∃ n, n = b.words.length := ⟨_, rfl⟩
  obtain ⟨k, hkk⟩ : ∃ n, n = init.length := ⟨_, rfl⟩
  have HNX := Lib.hid hnx
  have HNB := Lib.hid hnb
  have HKK := Lib.hid hkk
  have hl4 : x.b.words.length = nx := hnx.symm
  rw [← hnx] at hwo hwt1 kx1
  rw [hl4] at hd1
  rw [← hnb] at hwt1 kw1 hbl h hW1 ⊢
  rw [← hkk] at hOwn hwt2 kb1 hd1 o0 hpo
  have HOW := Lib.hid hwo
  have HOB := Lib.hid hOwn
  have HCL := Lib.hid hcl
  have HLA := Lib.hid hlast
  have HEX := Lib.hid ex
  have HPP := Lib.hid hpp
  have HPO := Lib.hid hpo
  have HNEW : Hid (∀ j u, (strsV b.words)[j]? = some u → W1.cell? ⟨gw, j, none⟩ = some u) := kw4
  have hBm := h.Bm
  unfold maxLen at kb2 kw2
  have hgl := hOwn
  have hlb := (own_at hOwn rfl).2
  have HD1 := Lib.hid hd1
  have hfb := kb5 (k * 5 + 1)
  have hg4 := Lib.hid g4
  clear hwo hOwn hcl hlast hpp hpo g1 g2 g3 g4 hadd kw4 kb4 hkk hnx hnb hline hne hl4 hll hgl ex hbw kb5 hlb
  have HW1 := Lib.hid hW1
  have hWlt : W.heap.size < W1.heap.size := by omega
  have HBoxB : Hid (Blk W1 W.heap.size 42 [.int .i64 2, .slice (some ⟨gw, 0, none⟩) nb c1, .slice A2 n2 c2, .string (BA b.runs), .int .i64 (b.width : Int)]) := by rw [hW1]; exact heap_alloc_new W _
  have HBr : Hid (b.rows = []) := hbr
  have HLen : Hid ((strsV b.words).length = nb * 1) := by show _ = _; rw [strsV_len, HNB.out, Nat.mul_one]
  have HNEWd : Hid (∀ j u, (strsV b.words)[j]? = some u → W1.drew.cell? ((⟨gw, 0, none⟩ : Addr).add j) = some u) := by
    intro j u hj
    have ha : (⟨gw, 0, none⟩ : Addr).add j = ⟨gw, j, none⟩ := by unfold Addr.add; split <;> simp_all
    rw [ha]
    exact HNEW.out j u hj
  have HOne : Hid (∀ u ∈ strsV b.words, u.oneCell' = true) := by
    intro u hu
    unfold strsV at hu
    obtain ⟨y, -, rfl⟩ := List.mem_map.1 hu
    rfl
  have HOWd : Hid (W1.drew.ownsRow m 9 1 (.slice Ax nx cx) nx (strsV x.b.words)) := HOW.out.drew
  have HOBd : Hid (W1.drew.ownsRow B 39 5 (.slice (some ⟨gb, 0, none⟩) (k + 1) cb) (k + 1) (mcells (init ++ [x]))) := HOB.out.drew
  have HBase : Hid (m ≤ W1.drew.heap.size) := hmW1
  have HCell : Hid ((mcells (init ++ [x]))[k * 5 + 1]? = some (.slice Ax nx cx)) := by
    show _ = _
    rw [HKK.out, mcells_get (init ++ [x]) init.length 1 x x.vw (by simp) rfl, HEX.out, HNX.out]
  have HPPd : Hid (Blk W1.drew pp 3 [.int .i64 ((2 : Nat) : Int)]) := HPP.out
  have HPOd : Hid (Blk W1.drew po 23 [.slice (some ⟨gb, 0, none⟩) (k + 1) cb]) := HPO.out
  have HBoxd : Hid (Blk W1.drew W.heap.size 42 [.int .i64 2, .slice (some ⟨gw, 0, none⟩) nb c1, .slice A2 n2 c2, .string (BA b.runs), .int .i64 (b.width : Int)]) := HBoxB.out
  have HOBk : Hid (W1.drew.ownsRow B 39 5 (.slice (some ⟨gb, 0, none⟩) (init.length + 1) cb) (init.length + 1) (mcells (init ++ [x]))) := by
    have := HOBd.out
    rw [HKK.out] at this
    exact this
  have hxd : Ext W1 W1.drew := (Ext.refl W1).drew
  have HCLd : Hid (∀ y ∈ init, MOk W1.drew m y) := fun y hy => (HCL.out y hy).ext hxd
  have HLAd : Hid (LastOk W1.drew m 2 x) := hg4.out.ext hxd
  have HBxd : Hid (Below B W W1.drew) := HBx.out.drew
  have hnp : pp ≠ gb := own_apart HOBd.out HPPd.out (by decide)
  have hno : po ≠ gb := own_apart HOBd.out HPOd.out (by decide)
  have hnb : W.heap.size ≠ gb := own_apart HOBd.out HBoxd.out (by decide)
  have hBgb : B ≤ gb := (own_at HOBd.out rfl).1
  rw [hW1] at HNEWd HOWd HOBd HBase hd1 hfb c0 o0 HPPd HPOd HBoxd HOBk HCLd HLAd HBxd
  clear hbr hW1 hmW1 HOW HNEW
  go_enter Tryd.func20, Tryd.ntmps20
  go_wp2_with fail
  go_region_law ((refine step_append_lies _ (by rfl) _ _ _ (by rfl) m 9 i0 _ 1 16 Tryd.underlying30 hi hz0 hz1 hz2 rfl (by omega) (.slice Ax nx cx) nx (strsV x.b.words) (by rfl) HOWd.out ⟨gw, 0, none⟩ nb c1 (strsV b.words) (by rfl) HLen.out HNEWd.out HOne.out hbl (by unfold maxLen; omega) (by omega) HBase.out _ rfl ?_; intro gg cap2 w3 hown1 hgrow hat hlt2; obtain ⟨hfc, hff⟩ := grown_far HOBd.out (Nat.succ_pos _) HOWd.out (by decide) hgrow; have e1 := hfc _ _ HCell.out; have e2 := hff (k * 5 + 1)))
  all_goals (
    have hp3 := HPPd.out.grown HOWd.out (by decide) hgrow
    have hq3 := HPOd.out.grown HOWd.out (by decide) hgrow
    have hb3 := HBoxd.out.grown HOWd.out (by decide) hgrow
    have hOut := out_words (b := b) (vw' := .slice (some ⟨gg, 0, none⟩) (nx + nb) cap2) (x := x) (init := init) HOBk.out HCLd.out HLAd.out HBase.out HBr.out (by rw [HEX.out, HNX.out.symm]; exact hgrow) (by rw [← HNX.out, ← HNB.out]; exact hown1)
    have hbl3 : Below B W w3 := HBxd.out.grown hgrow (by have h1 := hBm; have h2 := HBase.out; omega) (fun j hj => Nat.le_trans hBm (HOWd.out.lt j hj).1)
    have hsz3 : m ≤ w3.heap.size := Nat.le_trans HBase.out hgrow.size
    rw [← HKK.out] at hOut
    have hp4 := blk_ne (j := k * 5 + 1) (v := .slice (some ⟨gg, 0, none⟩) (nx + nb) cap2) hp3 hnp
    have hq4 := blk_ne (j := k * 5 + 1) (v := .slice (some ⟨gg, 0, none⟩) (nx + nb) cap2) hq3 hno
    have hb4 := blk_ne (j := k * 5 + 1) (v := .slice (some ⟨gg, 0, none⟩) (nx + nb) cap2) hb3 hnb
    have HE := Lib.hid (emit_end (W := W) (pp := pp) (po := po) hOut hBm (by simp [World.setCell]; exact hsz3) hp4 hq4 (Near.of (hbl3.setCell hBgb _)))
    obtain ⟨w4, hw4⟩ : ∃ w4, w4 = w3.setCell ⟨gb, k * 5 + 1, none⟩ (.slice (some ⟨gg, 0, none⟩) (nx + nb) cap2) := ⟨_, rfl⟩
    rw [← hw4] at hp4 hb4 HE ⊢
    have x0 := hb4.cell (i := 0) rfl
    have y0 : w4.cell? ⟨pp, 0, none⟩ = some (.int .i64 2) := hp4.cell (i := 0) rfl
    have z0 := blk_free hp4 0
    clear hp4 hq4 hb4 hw4 hOut hbl3 hp3 hq3 hb3 hown1 hgrow hat e1 e2 hfc hff c0 o0
    go_wp2_with fail
    exact bodyPost_ret (v := .tuple #[]) (by simp [results, Tryd.results20, go_sem]) rfl HE.out)
end Go.Proofs.YtapjhnlnfliljaaDoor
