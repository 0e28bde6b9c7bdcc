/- The blocks so far: what an append, a merge, a store beside them leave. (Layer 49) -/
import Derived.Test.YtapjhnlnfliljaaDoorDocCls
namespace Go.Proofs.YtapjhnlnfliljaaDoor
open Go.RowKit
open Go.Lib hiding intOf
set_option linter.unusedVariables false

/-- block g is none of the documents' rows -/
def Off (w : World) (g : Nat) : Prop := ∀ cs T fz, w.heap[g]? = some (.cells cs T fz) → T ≠ 9 ∧ T ≠ 30 ∧ T ≠ 39
def OffS (w : World) (g : Nat) : Prop := (∀ cs fz, w.heap[g]? ≠ some (.cells cs 9 fz)) ∧ ∀ cs fz, w.heap[g]? ≠ some (.cells cs 30 fz)
theorem Off.s {w : World} {g : Nat} (h : Off w g) : OffS w g := ⟨fun cs fz e => (h _ _ _ e).1 rfl, fun cs fz e => (h _ _ _ e).2.1 rfl⟩
theorem Off.blk {w : World} {g : Nat} {T : TypeId} {xs : List Value} (h : Blk w g T xs) (h1 : T ≠ 9) (h2 : T ≠ 30) (h3 : T ≠ 39) : Off w g := by
  intro cs T' fz e
  unfold Blk at h
  rw [h] at e
  simp only [Option.some.injEq, Obj.cells.injEq] at e
  rw [← e.2.1]
  exact ⟨h1, h2, h3⟩
theorem OffS.of_own {w : World} {base size n : Nat} {v : Value} {xs : List Value} {g : Nat} (h : w.ownsRow base 39 size v n xs) (hv : v.ownBlock = some g) : OffS w g := by
  obtain ⟨-, cs, hg⟩ := own_at h hv
  constructor <;>
  · intro cs2 fz e
    rw [hg] at e
    simp only [Option.some.injEq, Obj.cells.injEq] at e
    exact absurd e.2.1 (by decide)
/-- where a row has grown: the one block that may have changed -/
theorem grown_keep {w w' : World} {B : Nat} {e : TypeId} {size n : Nat} {v : Value} {xs : List Value} (h : w.ownsRow B e size v n xs) (hg : w.grownBy w' v.ownBlock) (hB : B ≤ w.heap.size) : ∃ g, Keep g w w' ∧ B ≤ g ∧ ∀ cs T fz, w.heap[g]? = some (.cells cs T fz) → T = e := by
  cases hv : v.ownBlock with
  | none =>
    rw [hv] at hg
    exact ⟨w.heap.size, Keep.grown hg (.inr rfl), hB, fun cs T fz h => by simp at h⟩
  | some g =>
    rw [hv] at hg
    obtain ⟨h1, cs, h2⟩ := own_at h hv
    refine ⟨g, Keep.grown hg (.inl rfl), h1, fun cs T fz e => ?_⟩
    rw [h2] at e
    simp only [Option.some.injEq, Obj.cells.injEq] at e
    exact e.2.1.symm
theorem LastOk.keep {w w' : World} {m op g : Nat} {x : MB} (h : LastOk w m op x) (hk : Keep g w w') (hg : OffS w g) : LastOk w' m op x := by
  unfold LastOk at h ⊢
  by_cases e2 : op = 2
  · rw [if_pos e2] at h ⊢
    exact ⟨own_keep h.1 hk (own_type h.1 hg.1), h.2.keep hk (.inr hg)⟩
  rw [if_neg e2] at h ⊢
  by_cases e3 : op = 3
  · rw [if_pos e3] at h ⊢
    obtain ⟨h1, vs, h2, h3⟩ := h
    exact ⟨h1.keep hk (.inr hg.1), vs, own_keep h2 hk (own_type h2 hg.2), fun i r hr => let ⟨u, k1, k2⟩ := h3 i r hr; ⟨u, k1, (k2.keep hk (.inr hg.1)).mono hk.size⟩⟩
  · rw [if_neg e3] at h ⊢
    exact h.keep hk (.inr hg)
theorem OutI.keep {w w' : World} {B m g : Nat} {ov : Value} {out : List DB} {op : Nat} (h : OutI w B m ov out op) (hk : Keep g w w') (hg : Off w g) : OutI w' B m ov out op := by
  obtain ⟨ms, h1, h2, h3, h4⟩ := h
  exact ⟨ms, h1, own_keep h2 hk (own_type h2 (fun cs fz e => (hg _ _ _ e).2.2 rfl)), fun x hx => (h3 x hx).keep hk (.inr hg.s), fun x hx => (h4 x hx).keep hk hg.s⟩
theorem LastOk.ext {w w' : World} {m op : Nat} {x : MB} (h : LastOk w m op x) (hx : Ext w w') : LastOk w' m op x := by
  unfold LastOk at h ⊢
  by_cases e2 : op = 2
  · rw [if_pos e2] at h ⊢
    exact ⟨own_ext h.1 hx, h.2.ext hx⟩
  rw [if_neg e2] at h ⊢
  by_cases e3 : op = 3
  · rw [if_pos e3] at h ⊢
    obtain ⟨h1, vs, h2, h3⟩ := h
    exact ⟨h1.ext hx, vs, own_ext h2 hx, fun i r hr => let ⟨u, k1, k2⟩ := h3 i r hr; ⟨u, k1, (k2.ext hx).mono hx.size⟩⟩
  · rw [if_neg e3] at h ⊢
    exact h.ext hx
theorem OutI.ext {w w' : World} {B m : Nat} {ov : Value} {out : List DB} {op : Nat} (h : OutI w B m ov out op) (hx : Ext w w') : OutI w' B m ov out op := by
  obtain ⟨ms, h1, h2, h3, h4⟩ := h
  exact ⟨ms, h1, own_ext h2 hx, fun x hx' => (h3 x hx').ext hx, fun x hx' => (h4 x hx').ext hx⟩
/-- all blocks closed, one more appended -/
theorem out_push {W W2 : World} {B M : Nat} {ov ov' : Value} {ms : List MB} {x : MB} {op' : Nat} (hown0 : W.ownsRow B 39 5 ov ms.length (mcells ms)) (hcl : ∀ y ∈ ms, MOk W M y) (hlast : LastOk W M op' x) (hB : B ≤ W.heap.size)
    (hgr : W.grownBy W2 ov.ownBlock) (hown : W2.ownsRow B 39 5 ov' (ms.length + 1) (mcells ms ++ x.cells)) : OutI W2 B M ov' (ms.map MB.b ++ [x.b]) op' := by
  obtain ⟨g, hk, hBg, hT⟩ := grown_keep hown0 hgr hB
  have hoff : OffS W g := ⟨fun cs fz e => absurd (hT _ _ _ e) (by decide), fun cs fz e => absurd (hT _ _ _ e) (by decide)⟩
  refine ⟨ms ++ [x], by simp, ?_, fun y hy => ?_, fun y hy => ?_⟩
  · rw [List.length_append, mcells_append]
    simpa [mcells] using hown
  · rw [List.dropLast_concat] at hy
    exact (hcl y hy).keep hk (.inr hoff)
  · rw [List.getLast?_concat] at hy
    cases hy
    exact hlast.keep hk hoff
theorem mcells_put (init : List MB) (x : MB) (j : Nat) (v : Value) (hj : j < 5) : (mcells (init ++ [x])).set (init.length * 5 + j) v = mcells init ++ x.cells.set j v := by
  rw [mcells_append, List.set_append_right _ _ (by rw [mcells_len]; omega), mcells_len, show init.length * 5 + j - init.length * 5 = j by omega]
  simp [mcells]
/-- the open paragraph takes more words -/
theorem out_words {W W2 : World} {B m gb cap : Nat} {init : List MB} {x : MB} {b : DB} {vw' : Value}
    (hown : W.ownsRow B 39 5 (.slice (some ⟨gb, 0, none⟩) (init.length + 1) cap) (init.length + 1) (mcells (init ++ [x]))) (hcl : ∀ y ∈ init, MOk W m y) (hlast : LastOk W m 2 x) (hm : m ≤ W.heap.size) (hbr : b.rows = [])
    (hgr : W.grownBy W2 x.vw.ownBlock) (hown2 : W2.ownsRow m 9 1 vw' (x.b.words.length + b.words.length) (strsV x.b.words ++ strsV b.words)) :
    OutI (W2.setCell ⟨gb, init.length * 5 + 1, none⟩ vw') B m (.slice (some ⟨gb, 0, none⟩) (init.length + 1) cap) (init.map MB.b ++ [mergeA x.b b]) 2 := by
  unfold LastOk at hlast
  rw [if_pos rfl] at hlast
  obtain ⟨gr, hk, hmg, hT⟩ := grown_keep hlast.1 hgr hm
  have hown3 := own_keep hown hk (own_type hown (fun cs fz e => absurd (hT _ _ _ e) (by decide)))
  obtain ⟨g, cap', e1, -, -, k3, -, -, ⟨cs, k6⟩, k7⟩ := own_put hown3 (by omega)
  have e2 : g = gb := by injection e1 with e1; injection e1 with e1; injection e1 with e1; exact e1.symm
  subst e2
  have hoff : OffS W2 g := OffS.of_own hown3 rfl
  have h7 := k7 (init.length * 5 + 1) vw' (by rw [mcells_append, List.length_append, mcells_len]; simp [mcells, MB.cells])
  rw [mcells_put _ _ _ _ (by decide)] at h7
  refine ⟨init ++ [⟨mergeA x.b b, vw', x.vr⟩], by simp, ?_, fun y hy => ?_, fun y hy => ?_⟩
  · rw [List.length_append, mcells_append]
    simpa [mcells, MB.cells, mergeA] using h7
  · rw [List.dropLast_concat] at hy
    exact ((hcl y hy).keep hk (.inl hmg)).keep (Keep.set _ _) (.inr hoff)
  · rw [List.getLast?_concat] at hy
    cases hy
    unfold LastOk
    rw [if_pos rfl]
    refine ⟨own_keep ?_ (Keep.set _ _) (own_type hown2 hoff.1), ?_⟩
    · show W2.ownsRow m _ 1 vw' (x.b.words ++ b.words).length (strsV (x.b.words ++ b.words))
      rw [List.length_append, strsV_append]
      exact hown2
    · show RL _ m x.vr (x.b.rows ++ b.rows)
      rw [hbr, List.append_nil]
      exact (hlast.2.keep hk (.inl hmg)).keep (Keep.set _ _) (.inr hoff)
/-- the open table takes one more row -/
theorem out_rows {W W2 : World} {B m gb cap : Nat} {init : List MB} {x : MB} {b : DB} {vr' u : Value} {r : List Bytes} {vs : List Value}
    (hown : W.ownsRow B 39 5 (.slice (some ⟨gb, 0, none⟩) (init.length + 1) cap) (init.length + 1) (mcells (init ++ [x]))) (hcl : ∀ y ∈ init, MOk W m y) (hw : SL W m x.vw x.b.words) (hv : W.ownsRow m 30 1 x.vr x.b.rows.length vs)
    (hvs : ∀ (i : Nat) (r : List Bytes), x.b.rows[i]? = some r → ∃ u, vs[i]? = some u ∧ SL W W.heap.size u r) (hm : m ≤ W.heap.size) (hbw : b.words = []) (hbr : b.rows = [r]) (hu : SL W W.heap.size u r)
    (hgr : W.grownBy W2 x.vr.ownBlock) (hown2 : W2.ownsRow m 30 1 vr' (x.b.rows.length + 1) (vs ++ [u])) :
    OutI (W2.setCell ⟨gb, init.length * 5 + 2, none⟩ vr') B m (.slice (some ⟨gb, 0, none⟩) (init.length + 1) cap) (init.map MB.b ++ [mergeA x.b b]) 3 := by
  obtain ⟨gr, hk, hmg, hT⟩ := grown_keep hv hgr hm
  have hown3 := own_keep hown hk (own_type hown (fun cs fz e => absurd (hT _ _ _ e) (by decide)))
  have hns : ∀ cs fz, W.heap[gr]? ≠ some (.cells cs 9 fz) := fun cs fz e => absurd (hT _ _ _ e) (by decide)
  obtain ⟨g, cap', e1, -, -, k3, -, -, ⟨cs, k6⟩, k7⟩ := own_put hown3 (by omega)
  have e2 : g = gb := by injection e1 with e1; injection e1 with e1; injection e1 with e1; exact e1.symm
  subst e2
  have hoff : OffS W2 g := OffS.of_own hown3 rfl
  have h7 := k7 (init.length * 5 + 2) vr' (by rw [mcells_append, List.length_append, mcells_len]; simp [mcells, MB.cells])
  rw [mcells_put _ _ _ _ (by decide)] at h7
  have hvl : vs.length = x.b.rows.length := by have := hv.1; omega
  have hk2 : Keep g W2 (W2.setCell ⟨g, init.length * 5 + 2, none⟩ vr') := Keep.set _ _
  refine ⟨init ++ [⟨mergeA x.b b, x.vw, vr'⟩], by simp, ?_, fun y hy => ?_, fun y hy => ?_⟩
  · rw [List.length_append, mcells_append]
    simpa [mcells, MB.cells, mergeA] using h7
  · rw [List.dropLast_concat] at hy
    exact ((hcl y hy).keep hk (.inl hmg)).keep hk2 (.inr hoff)
  · rw [List.getLast?_concat] at hy
    cases hy
    unfold LastOk
    rw [if_neg (by decide), if_pos rfl]
    refine ⟨?_, vs ++ [u], ?_, fun i q hq => ?_⟩
    · show SL _ m x.vw (x.b.words ++ b.words)
      rw [hbw, List.append_nil]
      exact (hw.keep hk (.inl hmg)).keep hk2 (.inr hoff.1)
    · show World.ownsRow _ m _ 1 vr' (x.b.rows ++ b.rows).length _
      rw [hbr, List.length_append]
      exact own_keep hown2 hk2 (own_type hown2 hoff.2)
    · have hq : (x.b.rows ++ b.rows)[i]? = some q := hq
      rw [hbr] at hq
      have hsz := Nat.le_trans hk.size hk2.size
      by_cases hi : i < x.b.rows.length
      · rw [List.getElem?_append_left hi] at hq
        obtain ⟨u', k1, k2⟩ := hvs i q hq
        exact ⟨u', by rw [List.getElem?_append_left (by omega)]; exact k1, ((k2.keep hk (.inr hns)).keep hk2 (.inr hoff.1)).mono hsz⟩
      · rw [List.getElem?_append_right (by omega)] at hq
        have hi0 : i - x.b.rows.length = 0 := by
          have := (List.getElem?_eq_some_iff.1 hq).1
          simp at this
          omega
        rw [hi0] at hq
        cases hq
        refine ⟨u, ?_, ((hu.keep hk (.inr hns)).keep hk2 (.inr hoff.1)).mono hsz⟩
        rw [List.getElem?_append_right (by omega), show i - vs.length = 0 by omega]
        rfl
end Go.Proofs.YtapjhnlnfliljaaDoor
