/- The closure of document.Parse: rows of tables; every line. (Layer 49) -/
import Derived.Test.YtapjhnlnfliljaaDoorDocEmit2
namespace Go.Proofs.YtapjhnlnfliljaaDoor
open Go.RowKit
open Go.Lib hiding intOf
set_option linter.unusedVariables false
set_option linter.unusedSimpArgs false

set_option maxRecDepth 100000 in
set_option maxHeartbeats 3200000 in
theorem emit_3s (W0 W : World) (B m pp po : Nat) (ov : Value) (out : List DB) (b : DB) (r : List Bytes) (A1 A2 : Option Addr) (n1 c1 n2 c2 : Nat) (hk : b.kind = 3) (hne : out ≠ []) (hbr : b.rows = [r]) (hbw : b.words = []) (hsl : SL W W.heap.size (.slice A2 n2 c2) r) (h : EPre W0 W B m pp po ov out 3 b (.slice A1 n1 c1) (.slice A2 n2 c2)) :
    Calls Tryd.prog 20 #[.agg #[.int .i64 3, .slice A1 n1 c1, .slice A2 n2 c2, .string (BA b.runs), .int .i64 (b.width : Int)], .pointer (some ⟨pp, 0, none⟩), .pointer (some ⟨po, 0, none⟩)] W (EPost B pp po (addA out 3 b) 3 W) := by
  have hBW : B ≤ W.heap.size := Nat.le_trans h.Bm (Nat.le_trans h.mW h.ext.size)
  obtain ⟨W1, hW1⟩ : ∃ W1, W1 = W.alloc (.cells #[.int .i64 3, .slice A1 n1 c1, .slice A2 n2 c2, .string (BA b.runs), .int .i64 (b.width : Int)] 42) := ⟨_, rfl⟩
  obtain ⟨W2, hW2⟩ : ∃ W2, W2 = W1.alloc (.cells #[.slice A2 n2 c2] 30) := ⟨_, rfl⟩
  have hx1 : Ext W W1 := by rw [hW1]; exact (Ext.refl W).alloc _
  have hx2 : Ext W1 W2 := by rw [hW2]; exact (Ext.refl W1).alloc _
  have hs1 : W1.heap.size = W.heap.size + 1 := by rw [hW1]; simp
  have hs2 : W2.heap.size = W.heap.size + 2 := by rw [hW2]; simp [hs1]
  have hxd : Ext W2 W2.drew := (Ext.refl W2).drew
  have hx02 := (h.ext.trans hx1).trans hx2
  have hx0d := hx02.trans hxd
  obtain ⟨ms, g1, g2, g3, g4⟩ := h.outI
  rcases List.eq_nil_or_concat ms with rfl | ⟨init, x, rfl⟩
  · exact absurd g1.symm hne
  rw [List.concat_eq_append] at g1 g2 g3 g4
  have g4 := (g4 x (by simp)).ext hx0d
  have hcl : ∀ y ∈ init, MOk W2.drew m y := fun y hy => (g3 y (by rw [List.dropLast_concat]; exact hy)).ext hx0d
  have hOwn := own_ext g2 hx0d
  have hOwn1 := own_ext g2 (h.ext.trans hx1)
  unfold LastOk at g4
  rw [if_neg (by decide), if_pos rfl] at g4
  obtain ⟨hw, vs, hro, hvs⟩ := g4
  have hadd : addA out 3 b = init.map MB.b ++ [mergeA x.b b] := by
    unfold addA
    rw [if_neg (by omega), if_pos ⟨hk, .inr rfl⟩, ← g1, List.map_append]
    simp
  rw [hadd]
  have hwt : x.b.rows.length ≤ 1000000 ∧ init.length ≤ 1000000 := by
    have h0 := h.wt
    have h1 := wt_out out
    have h2 : wtB x.b ≤ wtL out := wt_mem (by rw [← g1]; simp)
    have h3 := wt_rows x.b
    rw [← g1, List.length_map, List.length_append] at h1
    rw [← g1] at h0 h2
    omega
  obtain ⟨hwt1, hwt2⟩ := hwt
  have hll : (init ++ [x]).length = init.length + 1 := by simp
  rw [hll] at hOwn hOwn1
  obtain ⟨gb, cb, eb, kb1, kb2, -, kb4, kb5, -, -⟩ := own_put hOwn (by omega)
  subst eb
  obtain ⟨-, -, -, -, -, -, kc4, kc5, -, -⟩ := own_put hOwn1 (by omega)
  obtain ⟨Ax, cx, ex, kx1, kx2⟩ := own_slice hro
  have hOwn1' := hOwn1
  obtain ⟨gb', cb', eb', -, -, -, kc4, kc5, -, -⟩ := own_put hOwn1 (by omega)
  have eg : gb' = gb := by injection eb' with e1; injection e1 with e1; injection e1 with e1; exact e1.symm
  subst eg
  have hgbl : gb' < W.heap.size := by
    obtain ⟨-, cs, h2⟩ := own_at (own_ext g2 h.ext) rfl
    exact heap_lt h2
  have hd1 := kc4 (init.length * 5 + 2) x.vr (mcells_get (init ++ [x]) init.length 2 x _ (by simp) rfl)
  have hfb := kc5 (init.length * 5 + 2)
  rw [ex] at hd1 hro
  have hpp := (h.bpp.ext hx1).ext hx2
  have hpo := (h.bpo.ext hx1).ext hx2
  have c0 : W1.cell? ⟨pp, 0, none⟩ = some (.int .i64 3) := (h.bpp.ext hx1).cell (i := 0) rfl
  have o0 := (h.bpo.ext hx1).cell (i := 0) rfl
  have HBx : Hid (Below B W W2.drew) := by rw [hW2, hW1]; exact (((Below.refl B W).alloc hBW _).alloc (by simp; omega) _).drew
  obtain ⟨i0, hi, hz0, hz1, hz2⟩ := info_parts rowsInfo
  obtain ⟨nx, hnx⟩ : ∃ n, n = x.b.rows.length := ⟨_, rfl⟩
  obtain ⟨k, hkk⟩ : ∃ n, n = init.length := ⟨_, rfl⟩
  have HNX := Lib.hid hnx
  have HKK := Lib.hid hkk
  have hl4 : x.b.rows.length = nx := hnx.symm
  rw [← hnx] at hwt1 kx1 hro
  rw [hl4] at hd1
  have HOBk := Lib.hid hOwn
  rw [← hkk] at hOwn hwt2 kb1 hd1 o0 hpo hfb
  have HOW := Lib.hid hro
  have HOB := Lib.hid hOwn
  have HCL := Lib.hid hcl
  have HSW := Lib.hid hw
  have HVS := Lib.hid hvs
  have HEX := Lib.hid ex
  have HPP : Hid (Blk W2.drew pp 3 [.int .i64 ((3 : Nat) : Int)]) := hpp
  have HPO : Hid (Blk W2.drew po 23 [.slice (some ⟨gb', 0, none⟩) (k + 1) cb]) := hpo
  have HBox : Hid (Blk W2.drew W.heap.size 42 [.int .i64 3, .slice A1 n1 c1, .slice A2 n2 c2, .string (BA b.runs), .int .i64 (b.width : Int)]) := (show Blk W1 W.heap.size _ _ by rw [hW1]; exact heap_alloc_new W _).ext (hx2.trans hxd)
  have HNewB : Hid (W2.drew.heap[W.heap.size + 1]? = some (.cells #[.slice A2 n2 c2] 30 (0, 0))) := by
    show W2.heap[W.heap.size + 1]? = _
    rw [hW2, ← hs1]
    exact heap_alloc_new W1 _
  have HU : Hid (SL W2.drew W2.drew.heap.size (.slice A2 n2 c2) r) := (hsl.ext ((hx1.trans hx2).trans hxd)).mono (by show W.heap.size ≤ W2.heap.size; omega)
  have hBm := h.Bm
  unfold maxLen at kb2
  have hmW2 : m ≤ W2.drew.heap.size := Nat.le_trans h.mW hx0d.size
  have HBase := Lib.hid hmW2
  have hnp : pp ≠ gb' := own_apart HOB.out HPP.out (by decide)
  have hno : po ≠ gb' := own_apart HOB.out HPO.out (by decide)
  have hnb : W.heap.size ≠ gb' := own_apart HOB.out HBox.out (by decide)
  have hBgb : B ≤ gb' := (own_at HOB.out rfl).1
  have HBr := Lib.hid hbr
  have HBw := Lib.hid hbw
  have HCell : Hid ((mcells (init ++ [x]))[k * 5 + 2]? = some (.slice Ax nx cx)) := by
    show _ = _
    rw [HKK.out, mcells_get (init ++ [x]) init.length 2 x x.vr (by simp) rfl, HEX.out, HNX.out]
  have HNews : Hid (∀ j u, [Value.slice A2 n2 c2][j]? = some u → W2.drew.cell? ((⟨W.heap.size + 1, 0, none⟩ : Addr).add j) = some u) := World.news_of_block HNewB.out
  rw [hW2, hW1] at HOW HOB HOBk HCL HSW HVS HPP HPO HBox HU HBase HNews HBx
  rw [hW1] at hd1 hfb c0 o0
  clear hro hOwn hOwn1 hOwn1' hcl hw hvs hpp hpo g1 g2 g3 hadd kb4 kb5 kc4 kc5 hkk hnx hne hl4 hll ex hbw hbr hW1 hW2 hx1 hx2 hx02 hx0d hxd hs1 hs2 hmW2 eb' hsl h HNewB hk
  go_enter Tryd.func20, Tryd.ntmps20
  go_wp2_with fail
  go_region_law ((refine step_append_lies _ (by rfl) _ _ _ (by rfl) m 30 i0 _ 1 24 Tryd.underlying37 hi hz0 hz1 hz2 rfl (by omega) (.slice Ax nx cx) nx vs (by rfl) HOW.out ⟨W.heap.size + 1, 0, none⟩ 1 1 [.slice A2 n2 c2] (by rfl) (by rfl) HNews.out (by simp [Value.oneCell']) (by omega) (by unfold maxLen; omega) (by omega) HBase.out _ rfl ?_; intro gg cap2 w3 hown1 hgrow hat hlt2; obtain ⟨hfc, hff⟩ := grown_far HOB.out (Nat.succ_pos _) HOW.out (by decide) hgrow; have e1 := hfc _ _ HCell.out; have e2 := hff (k * 5 + 2)))
  all_goals (
    have hp3 := HPP.out.grown HOW.out (by decide) hgrow
    have hq3 := HPO.out.grown HOW.out (by decide) hgrow
    have hb3 := HBox.out.grown HOW.out (by decide) hgrow
    have hOut := out_rows (b := b) (vr' := .slice (some ⟨gg, 0, none⟩) (nx + 1) cap2) (x := x) (init := init) (vs := vs) HOBk.out HCL.out HSW.out (by rw [HEX.out, ← HNX.out]; exact HOW.out) HVS.out HBase.out HBw.out HBr.out HU.out (by rw [HEX.out, ← HNX.out]; exact hgrow) (by rw [← HNX.out]; exact hown1)
    have hbl3 : Below B W w3 := HBx.out.grown hgrow (by have h1 := hBm; have h2 := HBase.out; omega) (fun j hj => Nat.le_trans hBm (HOW.out.lt j hj).1)
    have hsz3 : m ≤ w3.heap.size := Nat.le_trans HBase.out hgrow.size
    rw [← HKK.out] at hOut
    have hp4 := blk_ne (j := k * 5 + 2) (v := .slice (some ⟨gg, 0, none⟩) (nx + 1) cap2) hp3 hnp
    have hq4 := blk_ne (j := k * 5 + 2) (v := .slice (some ⟨gg, 0, none⟩) (nx + 1) cap2) hq3 hno
    have hb4 := blk_ne (j := k * 5 + 2) (v := .slice (some ⟨gg, 0, none⟩) (nx + 1) cap2) hb3 hnb
    have HE := Lib.hid (emit_end (W := W) (pp := pp) (po := po) hOut hBm (by simp [World.setCell]; exact hsz3) hp4 hq4 (Near.of (hbl3.setCell hBgb _)))
    obtain ⟨w4, hw4⟩ : ∃ w4, w4 = w3.setCell ⟨gb', k * 5 + 2, none⟩ (.slice (some ⟨gg, 0, none⟩) (nx + 1) cap2) := ⟨_, rfl⟩
    rw [← hw4] at hp4 hb4 HE ⊢
    have x0 := hb4.cell (i := 0) rfl
    have y0 : w4.cell? ⟨pp, 0, none⟩ = some (.int .i64 3) := hp4.cell (i := 0) rfl
    have z0 := blk_free hp4 0
    clear hp4 hq4 hb4 hw4 hOut hbl3 hp3 hq3 hb3 hown1 hgrow hat e1 e2 hfc hff c0 o0
    go_wp2_with fail
    exact bodyPost_ret (v := .tuple #[]) (by simp [results, Tryd.results20, go_sem]) rfl HE.out)
set_option maxRecDepth 100000 in
set_option maxHeartbeats 3200000 in
theorem emit_3d (W0 W : World) (B m pp po : Nat) (ov : Value) (out : List DB) (op : Nat) (b : DB) (A1 A2 : Option Addr) (n1 c1 n2 c2 : Nat) (hk : b.kind = 3) (hop : op ≠ 3) (r : List Bytes) (hbr : b.rows = [r]) (hbw : b.words = []) (hbru : b.runs = []) (hbwd : b.width = 0) (hsl : SL W W.heap.size (.slice A2 n2 c2) r) (h : EPre W0 W B m pp po ov out op b (.slice A1 n1 c1) (.slice A2 n2 c2)) :
    Calls Tryd.prog 20 #[.agg #[.int .i64 3, .slice A1 n1 c1, .slice A2 n2 c2, .string (BA b.runs), .int .i64 (b.width : Int)], .pointer (some ⟨pp, 0, none⟩), .pointer (some ⟨po, 0, none⟩)] W (EPost B pp po (addA out op b) 3 W) := by
  have hadd : addA out op b = out ++ [b] := by unfold addA; rw [if_neg (by omega), if_neg (by omega)]
  rw [hadd]
  have hBW : B ≤ W.heap.size := Nat.le_trans h.Bm (Nat.le_trans h.mW h.ext.size)
  obtain ⟨W1, hW1⟩ : ∃ W1, W1 = ((W.alloc (.cells #[.int .i64 3, .slice A1 n1 c1, .slice A2 n2 c2, .string (BA b.runs), .int .i64 (b.width : Int)] 42)).alloc (.cells #[.slice A2 n2 c2] 30)).alloc (.cells #[.int .i64 3, .slice none 0 0, .slice (some ⟨W.heap.size + 1, 0, none⟩) 1 1, .string ⟨#[]⟩, .int .i64 0] 39) := ⟨_, rfl⟩
  have hx1 : Ext W W1 := by rw [hW1]; exact (((Ext.refl W).alloc _).alloc _).alloc _
  have hs1 : W1.heap.size = W.heap.size + 3 := by rw [hW1]; simp
  have hWs := h.ext.size
  have hmW := h.mW
  have hBm := h.Bm
  obtain ⟨M, hM, hM0, hM1⟩ : ∃ M, M = W0.heap.size ∧ W0.heap.size ≤ M ∧ M ≤ W1.heap.size := ⟨_, rfl, by omega, by omega⟩
  obtain ⟨ms, g1, g2, g3⟩ := h.outI.close
  have hOwn := own_ext g2 (h.ext.trans hx1)
  have hcl : ∀ y ∈ ms, MOk W1 M y := fun y hy => ((g3 y hy).ext (h.ext.trans hx1)).mono hM0
  have hlast : LastOk W1 M 3 ⟨b, .slice none 0 0, .slice (some ⟨W.heap.size + 1, 0, none⟩) 1 1⟩ := by
    unfold LastOk
    rw [if_neg (by decide), if_pos rfl]
    refine ⟨?_, [.slice A2 n2 c2], ?_, fun i q hq => ?_⟩
    · show SL W1 _ _ b.words
      rw [hbw]
      exact SL.nil _ _
    · show W1.ownsRow M _ 1 _ b.rows.length _
      rw [hbr]
      refine ⟨rfl, .inr ⟨W.heap.size + 1, 1, #[.slice A2 n2 c2], rfl, by omega, ?_, Nat.le_refl _, by decide, rfl, rfl⟩⟩
      rw [hW1, Below.heap_alloc _ _ _ (by simp)]
      have := heap_alloc_new (W.alloc (.cells #[.int .i64 3, .slice A1 n1 c1, .slice A2 n2 c2, .string (BA b.runs), .int .i64 (b.width : Int)] 42)) (.cells #[.slice A2 n2 c2] 30)
      rwa [show (W.alloc (.cells #[.int .i64 3, .slice A1 n1 c1, .slice A2 n2 c2, .string (BA b.runs), .int .i64 (b.width : Int)] 42)).heap.size = W.heap.size + 1 by simp] at this
    · have hq : b.rows[i]? = some q := hq
      rw [hbr] at hq
      have hi0 : i = 0 := by
        have := (List.getElem?_eq_some_iff.1 hq).1
        simp at this
        omega
      subst hi0
      cases hq
      exact ⟨_, rfl, (hsl.ext hx1).mono hx1.size⟩
  have hml : ms.length ≤ 1000000 := by
    have h1 := wt_out out
    have h2 := h.wt
    rw [← g1, List.length_map] at h1
    rw [← g1] at h2
    omega
  obtain ⟨A, c, rfl, hr, hm⟩ := own_slice hOwn
  have hpp := h.bpp.ext hx1
  have hpo := h.bpo.ext hx1
  have hppW := h.bpp.ext ((Ext.refl W).alloc (.cells #[.int .i64 3, .slice A1 n1 c1, .slice A2 n2 c2, .string (BA b.runs), .int .i64 (b.width : Int)] 42))
  have hpoW := h.bpo.ext ((Ext.refl W).alloc (.cells #[.int .i64 3, .slice A1 n1 c1, .slice A2 n2 c2, .string (BA b.runs), .int .i64 (b.width : Int)] 42))
  have c0 := hppW.cell (i := 0) rfl
  have o0 := hpoW.cell (i := 0) rfl
  have HBx : Hid (Below B W W1) := by rw [hW1]; exact (((Below.refl B W).alloc hBW _).alloc (by simp; omega) _).alloc (by simp; omega) _
  obtain ⟨i0, hi, hz0, hz1, hz2⟩ := info_parts blockInfo
  obtain ⟨n, hn⟩ : ∃ n, n = ms.length := ⟨_, rfl⟩
  have HN := Lib.hid hn
  have HK := Lib.hid hk
  have HNBL : Hid (W1.heap[W.heap.size + 2]? = some (.cells #[.int .i64 3, .slice none 0 0, .slice (some ⟨W.heap.size + 1, 0, none⟩) 1 1, .string ⟨#[]⟩, .int .i64 0] 39 (0, 0))) := by
    have := heap_alloc_new ((W.alloc (.cells #[.int .i64 3, .slice A1 n1 c1, .slice A2 n2 c2, .string (BA b.runs), .int .i64 (b.width : Int)] 42)).alloc (.cells #[.slice A2 n2 c2] 30)) (.cells #[.int .i64 3, .slice none 0 0, .slice (some ⟨W.heap.size + 1, 0, none⟩) 1 1, .string ⟨#[]⟩, .int .i64 0] 39)
    rw [show ((W.alloc (.cells #[.int .i64 3, .slice A1 n1 c1, .slice A2 n2 c2, .string (BA b.runs), .int .i64 (b.width : Int)] 42)).alloc (.cells #[.slice A2 n2 c2] 30)).heap.size = W.heap.size + 2 by simp, ← hW1] at this
    exact this
  have HRU := Lib.hid hbru
  have HWD := Lib.hid hbwd
  rw [← hn] at hml hr o0 hpo
  have HO : Hid (W1.ownsRow B 39 5 (.slice A n c) n (mcells ms)) := by
    have := hOwn
    rw [← hn] at this
    exact this
  have HCL := Lib.hid hcl
  have HLA := Lib.hid hlast
  have HPP := Lib.hid hpp
  have HPO := Lib.hid hpo
  have HG1 := Lib.hid g1
  have hBm0 : Hid (B ≤ M) := by show _ ≤ _; omega
  have hW0 : Hid (M ≤ W1.heap.size) := hM1
  have hq : (((3 : Int)) == (op : Int)) = false := by simp; omega
  clear hOwn hcl hlast hpp hpo hppW hpoW g1 g2 g3 h hx1 hn hadd hk hbr hM hM0 hM1 hWs hmW hBm hop hbw hbru hbwd hsl
  go_enter Tryd.func20, Tryd.ntmps20
  rw [hW1] at HNBL HO HCL HLA HPP HPO HBx hW0
  clear hW1 hs1
  go_wp2_with (at_builtin; refine wpList_append_own _ rfl (.tmp 75) (.tmp 82) _ rfl B 39 i0 _ 5 80 Tryd.underlying23 hi hz0 hz1 hz2 rfl (by omega) _ _ _ rfl HO.out ⟨W.heap.size + 2, 0, none⟩ 1 1 [.int .i64 3, .slice none 0 0, .slice (some ⟨W.heap.size + 1, 0, none⟩) 1 1, .string ⟨#[]⟩, .int .i64 0] rfl rfl ?k1 ?k2 ?k3 ?k4 ?k5 ?_)
  case k1 => exact World.news_of_block HNBL.out
  case k2 => intro u hu; simp at hu; rcases hu with rfl | rfl | rfl | rfl | rfl <;> rfl
  case k3 => unfold maxLen; omega
  case k4 => omega
  case k5 => simp; omega
  intro dv' w2 hown2 hgr _
  obtain ⟨A3, c3, rfl, -, -⟩ := own_slice hown2
  have hOut := out_push (x := ⟨b, .slice none 0 0, .slice (some ⟨W.heap.size + 1, 0, none⟩) 1 1⟩) (op' := 3) (ms := ms) (by rw [← HN.out]; exact HO.out) HCL.out HLA.out (by simp; omega) hgr (by rw [← HN.out]; unfold MB.cells; dsimp only; rw [HK.out, HRU.out, HWD.out]; exact hown2)
  rw [HG1.out] at hOut
  obtain ⟨gk, hkp, hBg, hT⟩ := grown_keep HO.out hgr (by simp; omega)
  have hp2 := HPP.out.grown HO.out (by decide) hgr
  have hq2 := HPO.out.grown HO.out (by decide) hgr
  have e0 := hp2.cell (i := 0) rfl
  have e1 := hq2.cell (i := 0) rfl
  have f0 := blk_free hp2 0
  have f1 := blk_free hq2 0
  have bx0 := (Blk.grown (b := W.heap.size) (T := 42) (xs := [.int .i64 3, .slice A1 n1 c1, .slice A2 n2 c2, .string (BA b.runs), .int .i64 (b.width : Int)]) (((show Blk (W.alloc _) W.heap.size _ _ from heap_alloc_new W _).alloc _).alloc _) HO.out (by decide) hgr).cell (i := 0) rfl
  have hne := blk_apart hp2 hq2 (by decide)
  have hOut2 := hOut.keep (Keep.set (b := po) 0 (.slice A3 (n + 1) c3)) (Off.blk hq2 (by decide) (by decide) (by decide))
  have hbl : Below B W w2 := HBx.out.grown hgr (by simp; omega) (fun k hk => (HO.out.lt k hk).1)
  have HE := Lib.hid (emit_end (W := W) (pp := pp) (po := po) hOut2 hBm0.out (by have := hkp.size; have h2 := hW0.out; simp [World.setCell] at this h2 ⊢; omega) (blk_ne hp2 hne) (blk_put hq2 0 (.slice A3 (n + 1) c3)) ((Near.of hbl).seto _))
  have hltb : W.heap.size < w2.heap.size := by have := hkp.size; simp at this; omega
  have hneb : W.heap.size ≠ po := fun e => by
    have h1 := hq2
    unfold Blk at h1
    have h2 := Blk.grown (b := W.heap.size) (T := 42) (xs := [.int .i64 3, .slice A1 n1 c1, .slice A2 n2 c2, .string (BA b.runs), .int .i64 (b.width : Int)]) (((show Blk (W.alloc _) W.heap.size _ _ from heap_alloc_new W _).alloc _).alloc _) HO.out (by decide) hgr
    exact blk_apart hq2 h2 (by decide) e.symm
  have hnebb : ¬ po = W.heap.size := fun e => hneb e.symm
  clear hOut hOut2 hp2 hq2 hown2 hgr hkp hT HO HCL HLA HPP HPO hbl HBx
  go_wp2_with fail
  exact bodyPost_ret (v := .tuple #[]) (by simp [results, Tryd.results20, go_sem]) rfl HE.out
/-- a line is added to the blocks so far -/
theorem emit_any (W0 W : World) (B m pp po : Nat) (ov : Value) (out : List DB) (op : Nat) (b : DB) (vw vc : Value) (hg : GoodB b) (hne : op = 2 ∨ op = 3 → out ≠ []) (hvw : ∃ A n c, vw = .slice A n c) (hvc : ∃ A n c, vc = .slice A n c) (h : EPre W0 W B m pp po ov out op b vw vc) :
    Calls Tryd.prog 20 #[.agg #[.int .i64 (b.kind : Int), vw, vc, .string (BA b.runs), .int .i64 (b.width : Int)], .pointer (some ⟨pp, 0, none⟩), .pointer (some ⟨po, 0, none⟩)] W (EPost B pp po (addA out op b) b.kind W) := by
  obtain ⟨A1, n1, c1, rfl⟩ := hvw
  obtain ⟨A2, n2, c2, rfl⟩ := hvc
  rcases hg with ⟨hk, rfl⟩ | ⟨hk, h1, h2, h3, h4⟩ | ⟨hk, h1, h2, h3, h4⟩ | ⟨hk, h1, h2, h3, h4⟩ | ⟨hk, h1, h2, h3, h4, h5⟩
  · exact emit_0 W0 W B m pp po ov out op A1 A2 n1 c1 n2 c2 h
  · rw [hk]
    by_cases e : op = 1
    · exact emit_1s W0 W B m pp po ov out op b A1 A2 n1 c1 n2 c2 hk e h2 h
    · exact emit_1d W0 W B m pp po ov out op b A1 A2 n1 c1 n2 c2 hk e h2 h
  · rw [hk]
    by_cases e : op = 2
    · subst e
      exact emit_2s W0 W B m pp po ov out b A1 A2 n1 c1 n2 c2 hk (hne (.inl rfl)) h2 h1 h
    · exact emit_2d W0 W B m pp po ov out op b A1 A2 n1 c1 n2 c2 hk e h2 h
  · obtain ⟨r, hr, hsl⟩ := h.line.three hk
    rw [hk]
    by_cases e : op = 3
    · subst e
      exact emit_3s W0 W B m pp po ov out b r A1 A2 n1 c1 n2 c2 hk (hne (.inr rfl)) hr h1 hsl h
    · exact emit_3d W0 W B m pp po ov out op b A1 A2 n1 c1 n2 c2 hk e r hr h1 h3 h4 hsl h
  · rw [hk]
    have hn := h.line.nilw (by omega) (by omega)
    by_cases e : op = 4
    · exact emit_4s W0 W B m pp po ov out op b A1 A2 n1 c1 n2 c2 hk e h2 ⟨h1, hn⟩ h
    · exact emit_4d W0 W B m pp po ov out op b A1 A2 n1 c1 n2 c2 hk e h2 ⟨h1, hn⟩ h
end Go.Proofs.YtapjhnlnfliljaaDoor
