/- slices.Insert of one hold into a row of holds that the function owns: every case. -/
import Derived.Test.YtkbaappeakgnoaaGreatDoorRetInsG
import Derived.Lib.LazyBuf
import Derived.Deep.AppendLies
namespace Go.Proofs.YtkbaappeakgnoaaGreatDoor
open Go.RowKit Go.Lib
set_option linter.unusedVariables false
set_option linter.unusedSimpArgs false

theorem HLst.of_cells {w : World} {b n c : Nat} {l : List Hold} (hn : n = l.length) (h1 : n ≤ c) (h2 : c ≤ maxLen) (h : ∀ (j : Nat) (u : Value), (holdCells l)[j]? = some u → w.cell? ⟨b, j, none⟩ = some u) : HLst w (some ⟨b, 0, none⟩) n c l :=
  ⟨hn, h1, h2, fun _ => ⟨b, 0, rfl, fun i hi => by
    have g := holdCells_get l i hi
    rw [Nat.zero_add]
    exact ⟨h _ _ g.1, h _ _ g.2⟩⟩⟩
theorem holdCells_append (a b : List Hold) : holdCells (a ++ b) = holdCells a ++ holdCells b := by simp [holdCells]
theorem holdCells_split (l : List Hold) (i : Nat) (h : Hold) (hi : i ≤ l.length) : holdCells (l.take i ++ [h] ++ l.drop i) = (holdCells l).take (i * 2) ++ [.string h.1, .int .i64 h.2] ++ (holdCells l).drop (i * 2) := by
  have e : holdCells l = holdCells (l.take i) ++ holdCells (l.drop i) := by rw [← holdCells_append, List.take_append_drop]
  have hl : (holdCells (l.take i)).length = i * 2 := by rw [holdCells_length, List.length_take]; omega
  rw [e, List.take_left' hl, List.drop_left' hl, holdCells_append, holdCells_append]
  rfl
theorem hold_one (l : List Hold) : ∀ v ∈ holdCells l, v.oneCell' = true := by
  intro v hv
  unfold holdCells at hv
  obtain ⟨h, -, hv⟩ := List.mem_flatMap.1 hv
  simp at hv
  rcases hv with rfl | rfl <;> rfl
theorem drew_setCellsH (b : Nat) : ∀ (vs : List Value) (o : Nat) (w : World), (w.setCells b o vs).drew = w.drew.setCells b o vs
  | [], _, _ => rfl
  | v :: r, o, w => by rw [World.setCells, World.setCells, drew_setCellsH b r]; rfl
theorem put_cells (W : World) (b i n : Nat) (cs vs : List Value) (hcl : cs.length = n * 2) (hvl : vs.length = 2) (hin : i ≤ n) (hA : ∀ (j : Nat) (v : Value), (cs.take (i * 2))[j]? = some v → W.cell? ⟨b, j, none⟩ = some v) (hS : ∀ j, j < (n + 1) * 2 → (W.cell? ⟨b, j, none⟩).isSome = true) :
    (∀ (j : Nat) (u : Value), (cs.take (i * 2) ++ vs ++ cs.drop (i * 2))[j]? = some u → ((W.setCells b ((i + 1) * 2) (cs.drop (i * 2))).setCells b (i * 2) vs).cell? ⟨b, j, none⟩ = some u) ∧
    (∀ (j : Nat) (u : Value), (cs.take (i * 2) ++ vs ++ cs.drop (i * 2))[j]? = some u → ((W.setCells b (i * 2) vs).setCells b ((i + 1) * 2) (cs.drop (i * 2))).cell? ⟨b, j, none⟩ = some u) := by
  have htl : (cs.take (i * 2)).length = i * 2 := by rw [List.length_take]; omega
  have hdl : (cs.drop (i * 2)).length = (n - i) * 2 := by rw [List.length_drop]; omega
  have hcase : ∀ (j : Nat) (u : Value), (cs.take (i * 2) ++ vs ++ cs.drop (i * 2))[j]? = some u → (j < i * 2 ∧ W.cell? ⟨b, j, none⟩ = some u) ∨ (∃ k, ∃ hk : k < vs.length, j = i * 2 + k ∧ vs[k] = u) ∨ (∃ k, ∃ hk : k < (cs.drop (i * 2)).length, j = (i + 1) * 2 + k ∧ (cs.drop (i * 2))[k] = u) := by
    intro j u hj
    rw [List.append_assoc] at hj
    by_cases h1 : j < i * 2
    · rw [List.getElem?_append_left (by omega)] at hj
      exact .inl ⟨h1, hA j u hj⟩
    · rw [List.getElem?_append_right (by omega), htl] at hj
      by_cases h2 : j - i * 2 < 2
      · rw [List.getElem?_append_left (by omega), List.getElem?_eq_getElem (by omega)] at hj
        exact .inr (.inl ⟨j - i * 2, by omega, by omega, Option.some.inj hj⟩)
      · rw [List.getElem?_append_right (by omega), hvl] at hj
        obtain ⟨hk, hv⟩ := List.getElem?_eq_some_iff.1 hj
        exact .inr (.inr ⟨j - i * 2 - 2, hk, by omega, hv⟩)
  constructor
  · intro j u hj
    rcases hcase j u hj with ⟨h1, h2⟩ | ⟨k, hk, rfl, hv⟩ | ⟨k, hk, rfl, hv⟩
    · rw [World.cell?_setCells_out b _ _ _ _ (fun _ _ => by left; exact h1), World.cell?_setCells_out b _ _ _ _ (fun _ _ => by left; show j < _; omega)]
      exact h2
    · rw [World.cell?_setCells_in b vs (i * 2) _ (fun t ht => by
        rw [World.cell?_setCells_out b _ _ _ _ (fun _ _ => by left; show i * 2 + t < _; omega)]
        exact hS _ (by omega)) k hk, hv]
    · rw [World.cell?_setCells_out b _ _ _ _ (fun _ _ => by right; show i * 2 + vs.length ≤ (i + 1) * 2 + k; omega), World.cell?_setCells_in b _ _ _ (fun t ht => hS _ (by omega)) k hk, hv]
  · intro j u hj
    rcases hcase j u hj with ⟨h1, h2⟩ | ⟨k, hk, rfl, hv⟩ | ⟨k, hk, rfl, hv⟩
    · rw [World.cell?_setCells_out b _ _ _ _ (fun _ _ => by left; show j < _; omega), World.cell?_setCells_out b _ _ _ _ (fun _ _ => by left; exact h1)]
      exact h2
    · rw [World.cell?_setCells_out b _ _ _ _ (fun _ _ => by left; show i * 2 + k < _; omega), World.cell?_setCells_in b vs (i * 2) _ (fun t ht => hS _ (by omega)) k hk, hv]
    · rw [World.cell?_setCells_in b _ _ _ (fun t ht => by
        rw [World.cell?_setCells_out b _ _ _ _ (fun _ _ => by right; show i * 2 + vs.length ≤ (i + 1) * 2 + t; omega)]
        exact hS _ (by omega)) k hk, hv]
set_option maxHeartbeats 4000000 in
set_option maxRecDepth 100000 in
/-- at the end -/
theorem insEnd (base n vb : Nat) (v : Value) (cs : List Value) (p : ByteArray) (u : Int) (w : World) (hown : w.ownsRow base 44 2 v n cs) (hn : n ≤ 1000) (hbase : base ≤ w.heap.size)
    (hv : w.heap[vb]? = some (.cells #[.string p, .int .i64 u] 44 (0, 0))) :
    Calls Tryz.prog 24 #[v, .int .i64 n, .slice (some ⟨vb, 0, none⟩) 1 1] w fun e w' =>
      ∃ v', e = .returned v' ∧ w'.ownsRow base 44 2 v' (n + 1) (cs ++ [.string p, .int .i64 u]) ∧ w.grownBy w' v.ownBlock := by
  obtain ⟨i0, hi, hz0, hz1, hz2⟩ := info_parts Tryz.infoHold
  have HN := Lib.hid (World.news_of_block hv)
  have HB := Lib.hid hbase
  have hq : ((n : Int) == (n : Int)) = true := by simp
  have hcs : (v = .slice none 0 0 ∧ n = 0) ∨ (∃ g, v = .slice (some ⟨g, 0, none⟩) n n ∧ n ≤ 9223372036854775807) ∨ (∃ g c, v = .slice (some ⟨g, 0, none⟩) n c ∧ n ≤ c ∧ c ≤ 9223372036854775807 ∧ ¬ c = n) := by
    rcases hown.2 with ⟨rfl, rfl⟩ | ⟨g, cap, cur, rfl, _, _, h1, h2, _⟩
    · exact .inl ⟨rfl, rfl⟩
    · unfold maxLen at h2
      by_cases hc : cap = n
      · subst hc
        exact .inr (.inl ⟨g, rfl, h2⟩)
      · exact .inr (.inr ⟨g, cap, rfl, h1, h2, hc⟩)
  have HO := Lib.hid hown
  clear hown hv hbase
  rcases hcs with ⟨rfl, rfl⟩ | ⟨g, rfl, hc2⟩ | ⟨g, c, rfl, hc1, hc2, hc3⟩
  · go_enter Tryz.func24, Tryz.ntmps24
    go_wp2_with (at_builtin; refine wpList_append_own _ rfl (.tmp 23) (.tmp 24) _ rfl base 44 i0 _ 2 24 Tryz.underlying22 hi hz0 hz1 hz2 rfl (by omega) _ _ _ rfl HO.out ⟨vb, 0, none⟩ 1 1 [.string p, .int .i64 u] rfl rfl ?k1 ?k2 ?k3 ?k4 ?k5 ?_)
    case k1 => first | exact HN.out | (intro j x hj; have := HN.out j x hj; rw [Addr.add_lit, Nat.zero_add] at this; exact this)
    try (case k2 => first | (intro x hx; simp at hx; rcases hx with rfl | rfl <;> rfl) | exact ⟨rfl, rfl⟩)
    try (case k3 => first | omega | (unfold maxLen; omega))
    try (case k4 => omega)
    try (case k5 => exact HB.out)
    intro v' w2 hown2 hgr _
    have H2 := Lib.hid hown2
    have HG := Lib.hid hgr
    clear hown2 hgr
    go_wp2_with fail
    go_ret
    exact ⟨_, rfl, H2.out, HG.out⟩
  · go_enter Tryz.func24, Tryz.ntmps24
    go_wp2_with (at_builtin; refine wpList_append_own _ rfl (.tmp 23) (.tmp 24) _ rfl base 44 i0 _ 2 24 Tryz.underlying22 hi hz0 hz1 hz2 rfl (by omega) _ _ _ rfl HO.out ⟨vb, 0, none⟩ 1 1 [.string p, .int .i64 u] rfl rfl ?a1 ?a2 ?a3 ?a4 ?a5 ?_)
    case a1 => first | exact HN.out | (intro j x hj; have := HN.out j x hj; rw [Addr.add_lit, Nat.zero_add] at this; exact this)
    try (case a2 => first | (intro x hx; simp at hx; rcases hx with rfl | rfl <;> rfl) | exact ⟨rfl, rfl⟩)
    try (case a3 => first | omega | (unfold maxLen; omega))
    try (case a4 => omega)
    try (case a5 => exact HB.out)
    intro v' w2 hown2 hgr _
    have H2 := Lib.hid hown2
    have HG := Lib.hid hgr
    clear hown2 hgr
    go_wp2_with fail
    go_ret
    exact ⟨_, rfl, H2.out, HG.out⟩
  · go_enter Tryz.func24, Tryz.ntmps24
    go_wp2_with (at_builtin; refine wpList_append_own _ rfl (.tmp 23) (.tmp 24) _ rfl base 44 i0 _ 2 24 Tryz.underlying22 hi hz0 hz1 hz2 rfl (by omega) _ _ _ rfl HO.out ⟨vb, 0, none⟩ 1 1 [.string p, .int .i64 u] rfl rfl ?b1 ?b2 ?b3 ?b4 ?b5 ?_)
    case b1 => first | exact HN.out | (intro j x hj; have := HN.out j x hj; rw [Addr.add_lit, Nat.zero_add] at this; exact this)
    try (case b2 => first | (intro x hx; simp at hx; rcases hx with rfl | rfl <;> rfl) | exact ⟨rfl, rfl⟩)
    try (case b3 => first | omega | (unfold maxLen; omega))
    try (case b4 => omega)
    try (case b5 => exact HB.out)
    intro v' w2 hown2 hgr _
    have H2 := Lib.hid hown2
    have HG := Lib.hid hgr
    clear hown2 hgr
    go_wp2_with fail
    go_ret
    exact ⟨_, rfl, H2.out, HG.out⟩
/-- wherever -/
theorem insert_any (w0 w : World) (base n i vb : Nat) (v : Value) (l : List Hold) (h : Hold) (hown : w.ownsRow base 44 2 v n (holdCells l)) (hn : n = l.length) (hl : l.length ≤ 999) (hi : i ≤ n) (hx : Ext w0 w) (hb : w0.heap.size ≤ base) (hbase : base ≤ w.heap.size)
    (hv : w.heap[vb]? = some (.cells #[.string h.1, .int .i64 h.2] 44 (0, 0))) (hvb : v.ownBlock ≠ some vb) :
    Calls Tryz.prog 24 #[v, .int .i64 i, .slice (some ⟨vb, 0, none⟩) 1 1] w fun e w' =>
      ∃ A c, e = .returned (.slice A (n + 1) c) ∧ HLst w' A (n + 1) c (l.take i ++ [h] ++ l.drop i) ∧ Ext w0 w' := by
  by_cases hin : i = n
  · subst hin
    refine (insEnd base i vb v (holdCells l) h.1 h.2 w hown (by omega) hbase hv).mono ?_
    rintro e w' ⟨v', rfl, ho, hg⟩
    have e1 : l.take i ++ [h] ++ l.drop i = l ++ [h] := by rw [hn, List.take_length, List.drop_length, List.append_nil]
    rw [e1]
    rw [← holdCells_snoc] at ho
    have hl2 : i + 1 = (l ++ [h]).length := by rw [List.length_append, hn]; rfl
    rw [hl2] at ho ⊢
    obtain ⟨A, c, rfl, hh⟩ := HLst.of_own ho
    exact ⟨A, c, rfl, hh, Ext.grown hx hg (fun k hk => Nat.le_trans hb (hown.lt k hk).1)⟩
  · have hi2 : i < n := by omega
    rcases hown.2 with ⟨-, h0⟩ | ⟨g, cap, cur, rfl, hB, hg, h1, h2, h3, h4⟩
    · omega
    have hcl : (holdCells l).length = n * 2 := by rw [holdCells_length, hn]
    have hcell : ∀ j, w.cell? ⟨g, j, none⟩ = cur[j]? := fun j => by simp [World.cell?, hg]
    have hcs : ∀ (j : Nat) (u : Value), (holdCells l)[j]? = some u → w.cell? ⟨g, j, none⟩ = some u := fun j u hj => by
      have hlt := (List.getElem?_eq_some_iff.1 hj).1
      rw [← h4, List.getElem?_take_of_lt (by omega)] at hj
      rw [hcell]
      simpa using hj
    have hvs : ∀ (j : Nat) (u : Value), [Value.string h.1, .int .i64 h.2][j]? = some u → w.cell? ⟨vb, j, none⟩ = some u := fun j u hj => by
      have := World.news_of_block hv j u hj
      rw [Addr.add_lit, Nat.zero_add] at this
      exact this
    have h1v : ∀ u ∈ [Value.string h.1, .int .i64 h.2], u.oneCell' = true := by
      intro x hx
      simp at hx
      rcases hx with rfl | rfl <;> rfl
    have hne : vb ≠ g := fun e => hvb (by rw [e]; rfl)
    have hsum : (l.take i ++ [h] ++ l.drop i).length = n + 1 := by
      rw [List.length_append, List.length_append, List.length_take, List.length_drop]
      simp
      omega
    unfold maxLen at h2
    by_cases hroom : n + 1 ≤ cap
    · have hS : ∀ j, j < (n + 1) * 2 → (w.cell? ⟨g, j, none⟩).isSome = true := fun j hj => by
        rw [hcell, Array.getElem?_eq_getElem (by omega)]; rfl
      refine (insShift g n cap i vb (holdCells l) [.string h.1, .int .i64 h.2] w hi2 hroom h2 hne hcl rfl hcs hS (fun j _ => Lib.frozen_of_heap hg j) hvs (hold_one l) h1v 44 44 2 cur.size (by simp [World.shape?, hv]) (by simp [World.shape?, hg]) (by omega) (Lib.frozen_of_heap hv 0) (Lib.frozen_of_heap hv 2)).mono ?_
      rintro e w' ⟨rfl, rfl⟩
      refine ⟨_, _, rfl, HLst.of_cells (by rw [hsum]) hroom (by unfold maxLen; omega) (fun j u hj => ?_), ?_⟩
      · rw [holdCells_split l i h (by omega)] at hj
        exact (put_cells w.drew g i n (holdCells l) [.string h.1, .int .i64 h.2] hcl rfl (by omega) (fun j v hj => hcs j v (by
          have hlt := (List.getElem?_eq_some_iff.1 hj).1
          rw [List.length_take] at hlt
          rw [List.getElem?_take_of_lt (by omega)] at hj
          exact hj)) hS).1 j u hj
      · exact below_setCells (Nat.le_trans hb hB) _ _ _ (below_setCells (Nat.le_trans hb hB) _ _ _ hx.drew)
    · refine (insGrow g n cap i vb (holdCells l) [.string h.1, .int .i64 h.2] w hi2 h1 (by omega) (by omega) hcl rfl hcs hvs (hold_one l) h1v).mono ?_
      rintro e w' ⟨G, ROW, rfl, hG1, hG2, hR, hRt, rfl⟩
      refine ⟨_, _, rfl, HLst.of_cells (by rw [hsum]) hG1 (by unfold maxLen; omega) (fun j u hj => ?_), ?_⟩
      · rw [holdCells_split l i h (by omega)] at hj
        have hcA : ∀ j, ((w.alloc (.cells ROW 44)).drew).cell? ⟨w.heap.size, j, none⟩ = ROW[j]? := fun j => World.cell?_alloc_at (w := w) ROW _ w.heap.size j rfl
        have := (put_cells ((w.alloc (.cells ROW 44)).drew) w.heap.size i n (holdCells l) [.string h.1, .int .i64 h.2] hcl rfl (by omega) (fun j v hj => by rw [hcA]; exact hRt j v hj) (fun j hj => by rw [hcA, Array.getElem?_eq_getElem (by omega)]; rfl)).2 j u hj
        rw [← drew_setCellsH]
        exact this
      · have hx1 : Ext w0 ((w.alloc (.cells ROW 44)).drew) := (hx.alloc _).drew
        have hgh : w0.heap.size ≤ w.heap.size := hx.size
        exact below_setCells hgh _ _ _ (Ext.drew (below_setCells hgh _ _ _ hx1))
end Go.Proofs.YtkbaappeakgnoaaGreatDoor
