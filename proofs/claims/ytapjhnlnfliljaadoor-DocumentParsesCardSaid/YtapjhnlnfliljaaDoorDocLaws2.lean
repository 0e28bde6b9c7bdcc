/- The law DocumentJoin. (Layer 49) -/
import Derived.Test.YtapjhnlnfliljaaDoorDocLaws1
import Derived.Laws.OwnMore
namespace Go.Proofs.YtapjhnlnfliljaaDoor
open Go.RowKit
open Go.Lib hiding intOf
set_option linter.unusedVariables false

/-- an append of a list of blocks to a row of blocks that the function owns -/
theorem wp_append_D {w : World} {o : Oper} {a : Act} {K : Act → World → Prop} {Q : Exit → Act → World → Prop} (s x : Operand)
    (ho : o.op = .call { callee := .builtin .append, args := #[s, x], argTypes := #[23, 23] })
    (base : Nat) (v : Value) (n : Nat) (xs : List Value) (hs : a.eval s = v) (hown : w.ownsRow base 39 5 v n xs) (A : Option Addr) (m c : Nat) (ms : List MB) (hx : a.eval x = .slice A m c) (hA : A = none → m = 0 ∧ c = 0) (hlen : ms.length = m)
    (hl : 0 < m → ∃ g off, A = some ⟨g, off, none⟩ ∧ ∀ j u, (mcells ms)[j]? = some u → w.cell? ⟨g, off + j, none⟩ = some u) (h1 : ∀ u ∈ mcells ms, u.oneCell' = true) (hb : n + m ≤ 100000) (hbase : base ≤ w.heap.size)
    (h : ∀ v' w', w'.ownsRow base 39 5 v' (n + m) (xs ++ mcells ms) → w.grownBy w' v.ownBlock → K (a.put o.dst v') w') : o.wp Tryd.prog a w K Q := by
  obtain ⟨i0, hi0, hz0, hz1, hz2⟩ := info_parts blockInfo
  match A, hx, hA, hl with
  | none, hx, hA, hl =>
    obtain ⟨rfl, rfl⟩ := hA rfl
    have hr : ms = [] := List.eq_nil_of_length_eq_zero hlen
    subst hr
    have hrun := run_append_owned_none (P := Tryd.prog) (w := w) base 23 o.type 39 i0 5 Tryd.underlying23 hi0 v n xs hown
    unfold Oper.wp
    simp [execOp, ho, resolve, invoke, builtin, hs, hx, hrun, Result.andThen]
    exact h v w (by rw [Nat.add_zero]; show w.ownsRow _ _ _ _ _ (xs ++ []); rw [List.append_nil]; exact hown) ⟨rfl, rfl, rfl, Nat.le_refl _, fun _ _ _ => rfl⟩
  | some ad, hx, _, hl =>
    refine wp_append_own w s x _ ho base _ i0 _ 5 80 Tryd.underlying23 hi0 hz0 hz1 hz2 rfl (by omega) v n xs hs hown ad m c (mcells ms) hx (by rw [mcells_len, hlen]) ?_ h1 (by unfold maxLen; omega) (by omega) hbase fun v' w' k1 k2 _ => h v' w' k1 k2
    intro j u hj
    have hj' : j < (mcells ms).length := (List.getElem?_eq_some_iff.1 hj).1
    rw [mcells_len] at hj'
    obtain ⟨b, off, e, hc⟩ := hl (by omega)
    obtain rfl := Option.some.inj e
    have e : (⟨b, off, none⟩ : Addr).add j = ⟨b, off + j, none⟩ := by
      unfold Addr.add
      split
      · rename_i h0; rw [h0]; rfl
      · rfl
    rw [e]; exact hc j u hj
theorem wpList_append_D {w : World} {ops : Array Oper} {rest : List Oper} {o : Oper} {a : Act} {Q : Exit → Act → World → Prop} (hw : Region.wanted o (yielded ops a.tmps) = true) (s x : Operand)
    (ho : o.op = .call { callee := .builtin .append, args := #[s, x], argTypes := #[23, 23] })
    (base : Nat) (v : Value) (n : Nat) (xs : List Value) (hs : a.eval s = v) (hown : w.ownsRow base 39 5 v n xs) (A : Option Addr) (m c : Nat) (ms : List MB) (hx : a.eval x = .slice A m c) (hA : A = none → m = 0 ∧ c = 0) (hlen : ms.length = m)
    (hl : 0 < m → ∃ g off, A = some ⟨g, off, none⟩ ∧ ∀ j u, (mcells ms)[j]? = some u → w.cell? ⟨g, off + j, none⟩ = some u) (h1 : ∀ u ∈ mcells ms, u.oneCell' = true) (hb : n + m ≤ 100000) (hbase : base ≤ w.heap.size)
    (h : ∀ v' w', w'.ownsRow base 39 5 v' (n + m) (xs ++ mcells ms) → w.grownBy w' v.ownBlock → wpList Tryd.prog ops Q rest (a.put o.dst v') w') : wpList Tryd.prog ops Q (o :: rest) a w := by
  unfold wpList
  rw [if_pos hw]
  exact .inl (wp_append_D s x ho base v n xs hs hown A m c ms hx hA hlen hl h1 hb hbase h)
/-- the parts of a slice of blocks, for an append -/
theorem DL.parts {w : World} {v : Value} {l : List DB} (h : DL w v l) : ∃ (A : Option Addr) (c : Nat) (ms : List MB), v = .slice A l.length c ∧ ms.map MB.b = l ∧ ms.length = l.length ∧ l.length ≤ c ∧ c ≤ 9223372036854775807 ∧ (A = none → l.length = 0 ∧ c = 0) ∧ (0 < l.length → ∃ g off, A = some ⟨g, off, none⟩ ∧ ∀ j u, (mcells ms)[j]? = some u → w.cell? ⟨g, off + j, none⟩ = some u) ∧ (∀ u ∈ mcells ms, u.oneCell' = true) ∧ ∀ x ∈ ms, MOk w w.heap.size x := by
  obtain ⟨A, c, ms, h1, h2, h3, h4, h5, h6, h7⟩ := h
  unfold maxLen at h4
  refine ⟨A, c, ms, h1, h2, by rw [← h2, List.length_map], h3, h4, fun e => ⟨by have := h5 e; omega, h5 e⟩, h6, fun u hu => ?_, h7⟩
  unfold mcells at hu
  obtain ⟨x, hx, hu⟩ := List.mem_flatMap.1 hu
  obtain ⟨⟨a1, b1, e1, -⟩, ⟨a2, b2, b3, e2, -⟩⟩ := h7 x hx
  unfold MB.cells at hu
  simp only [List.mem_cons, List.not_mem_nil, or_false] at hu
  rcases hu with rfl | rfl | rfl | rfl | rfl
  · rfl
  · rw [e1]; rfl
  · rw [e2]; rfl
  · rfl
  · rfl
theorem same_self (v v' : Value) (l : List DB) (w : World) (h : DL w v l) (h' : DL w v' l) :
    Calls Tryd.prog 12 #[v, v'] w fun e w' => e = .returned (.bool true) ∧ Ext w w' := by
  have h := same_any v v' l l w h h'
  have e : decide (l = l) = true := decide_eq_true_iff.2 rfl
  rw [e] at h
  exact h
set_option maxRecDepth 100000 in
set_option maxHeartbeats 6400000 in
theorem lawJoin_any (s t : ByteArray) (w : World) (hs : s.size ≤ maxLen) (ht : t.size ≤ maxLen) (hst : s.size + t.size < 9223372036854775808) (hE : Env w) (hS : Sy w) :
    Calls Tryd.prog 4 #[.string s, .string t] w fun e w' => e = .returned (.bool true) ∧ Ext w w' := by
  have HA := Lib.hid (fun W (h : Ext w W) => alive_any W (hE.ext h) (hS.ext h))
  have hsl : s.data.toList.length = s.size := by simp
  have htl : t.data.toList.length = t.size := by simp
  unfold maxLen at hs ht
  by_cases hbig : 2000 < s.size + t.size
  · have hd : decide ((2000 : Int) < (s.size : Int) + (t.size : Int)) = true := decide_eq_true (by omega)
    clear hbig hsl htl
    go_enter Tryd.func4, Tryd.ntmps4
    go_wp2_with fail
    refine (HA.out _ (Ext.refl w)).mono ?_
    rintro e w1 ⟨rfl, hx1⟩
    go_wp2_with fail
    go_ret
    exact ⟨rfl, hx1⟩
  have hd : decide ((2000 : Int) < (s.size : Int) + (t.size : Int)) = false := decide_eq_false (by omega)
  have hs2 : s.size ≤ 2000 := by omega
  have ht2 : t.size ≤ 2000 := by omega
  have HP := Lib.hid (fun W (h : Ext w W) => parse_any s W (hE.ext h) (hS.ext h) (by unfold maxLen; omega))
  have HQ := Lib.hid (fun W (h : Ext w W) => parse_any t W (hE.ext h) (hS.ext h) (by unfold maxLen; omega))
  obtain ⟨l, n, e, hp⟩ : ∃ l n e, parseA s.data.toList = (l, n, e) := ⟨_, _, _, rfl⟩
  obtain ⟨m, k, f, hq⟩ : ∃ l n e, parseA t.data.toList = (l, n, e) := ⟨_, _, _, rfl⟩
  rw [hp] at HP
  rw [hq] at HQ
  by_cases he : e = 0
  rotate_left
  · have hee : (((e : Nat) : Int) != 0) = true := by simp; omega
    clear hp hq hbig hsl htl he
    go_enter Tryd.func4, Tryd.ntmps4
    go_wp2_with fail
    refine (HA.out _ (Ext.refl w)).mono ?_
    rintro e w1 ⟨rfl, hx1⟩
    go_wp2_with fail
    refine (HP.out _ hx1).mono ?_
    rintro e w2 ⟨v, rfl, -, hx2⟩
    have hx12 := hx1.trans hx2
    go_wp2_with fail
    refine (HQ.out _ hx12).mono ?_
    rintro e w3 ⟨v3, rfl, -, hx3⟩
    go_wp2_with fail
    go_ret
    exact ⟨rfl, hx12.trans hx3⟩
  subst he
  by_cases hf : f = 0
  rotate_left
  · have hee : (((f : Nat) : Int) != 0) = true := by simp; omega
    clear hp hq hbig hsl htl hf
    go_enter Tryd.func4, Tryd.ntmps4
    go_wp2_with fail
    refine (HA.out _ (Ext.refl w)).mono ?_
    rintro e w1 ⟨rfl, hx1⟩
    go_wp2_with fail
    refine (HP.out _ hx1).mono ?_
    rintro e w2 ⟨v, rfl, -, hx2⟩
    have hx12 := hx1.trans hx2
    go_wp2_with fail
    refine (HQ.out _ hx12).mono ?_
    rintro e w3 ⟨v3, rfl, -, hx3⟩
    go_wp2_with fail
    go_ret
    exact ⟨rfl, hx12.trans hx3⟩
  subst hf
  have hj := parseA_join s.data.toList t.data.toList (by omega) l m n k hp hq
  have ha : (s ++ ⟨#[10, 10]⟩ ++ t : ByteArray).data.toList = s.data.toList ++ [10, 10] ++ t.data.toList := by simp
  have hp1 := fun W (h : Ext w W) => parse_any (s ++ ⟨#[10, 10]⟩ ++ t) W (hE.ext h) (hS.ext h) (by rw [ByteArray.size_append, ByteArray.size_append]; unfold maxLen; show s.size + 2 + t.size ≤ _; omega)
  rw [ha, hj] at hp1
  have H1 := Lib.hid hp1
  have hll : l.length ≤ 30000 ∧ m.length ≤ 30000 := by
    have h1 := parse_wt hp
    have h2 := parse_wt hq
    have h3 := wt_out l
    have h4 := wt_out m
    omega
  obtain ⟨hl1, hl2⟩ := hll
  clear hp hq hbig hsl htl hj ha hp1
  go_enter Tryd.func4, Tryd.ntmps4
  go_wp2_with fail
  refine (HA.out _ (Ext.refl w)).mono ?_
  rintro e w1 ⟨rfl, hx1⟩
  go_wp2_with fail
  refine (HP.out _ hx1).mono ?_
  rintro e w2 ⟨v2, rfl, hdl2, hx2⟩
  have hx12 := hx1.trans hx2
  go_wp2_with fail
  refine (HQ.out _ hx12).mono ?_
  rintro e w3 ⟨v3, rfl, hdl3, hx3⟩
  have hx13 := hx12.trans hx3
  have hdl2 := hdl2.ext hx3
  go_wp2_with fail
  refine (H1.out _ hx13).mono ?_
  rintro e w4 ⟨v4, rfl, hdl4, hx4⟩
  have hx14 := hx13.trans hx4
  have hx5 : Ext w4 (w4.alloc (.cells #[] 39)) := (Ext.refl w4).alloc _
  have HD4B := Lib.hid hdl4
  have H14 := Lib.hid hx14
  obtain ⟨A2, c2, ms2, rfl, p1, p2, p3, p4, p5, p6, p7, p8⟩ := (hdl2.ext hx4).parts
  have HP8B := Lib.hid p8
  have p6 : 0 < l.length → ∃ g off, A2 = some ⟨g, off, none⟩ ∧ ∀ j u, (mcells ms2)[j]? = some u → (w4.alloc (.cells #[] 39)).cell? ⟨g, off + j, none⟩ = some u := fun h => let ⟨g, off, a, b⟩ := p6 h; ⟨g, off, a, fun j u hj => hx5.cell (b j u hj)⟩
  obtain ⟨A4, c4, ms4, rfl, -⟩ := id hdl4
  obtain ⟨A3, c3, ms3, rfl, q1, q2, q3, q4, q5, q6, q7, q8⟩ := (hdl3.ext hx4).parts
  have HQ1 := Lib.hid q1
  have HQ2 := Lib.hid q2
  have HQ5 := Lib.hid q5
  have HQ6W := Lib.hid q6
  have HQ7 := Lib.hid q7
  have HQ8 := Lib.hid q8
  have hOw : (w4.alloc (.cells #[] 39)).ownsRow w4.heap.size 39 5 (.slice (some ⟨w4.heap.size, 0, none⟩) 0 0) 0 (mcells []) := ⟨rfl, .inr ⟨w4.heap.size, 0, #[], rfl, Nat.le_refl _, heap_alloc_new w4 _, Nat.le_refl _, Nat.zero_le _, rfl, rfl⟩⟩
  have HOW := Lib.hid hOw
  have HX5 := Lib.hid hx5
  have HP1 := Lib.hid p1
  have HP2 := Lib.hid p2
  have HP5 := Lib.hid p5
  have HP6 := Lib.hid p6
  have HP7 := Lib.hid p7
  have HP8 := Lib.hid p8
  clear hx1 hx2 hx3 hx4 hx5 hx12 hx13 hx14 hdl2 hdl3 hdl4 q1 q2 q5 q6 q7 q8 p1 p2 p5 p6 p7 p8 hOw
  go_wp2_with (at_builtin; refine wpList_append_D (by rw [guardOk_eq]; rfl) (.tmp 57) (.tmp 58) rfl w4.heap.size _ 0 (mcells []) rfl HOW.out A2 l.length c2 ms2 rfl HP5.out HP2.out HP6.out HP7.out (by omega) (by simp) ?_)
  intro v5 w5 hown5 hgr5
  have hx55 : Ext w4 w5 := HX5.out.grown hgr5 (fun k hk => (HOW.out.lt k hk).1)
  have hq6 : 0 < m.length → ∃ g off, A3 = some ⟨g, off, none⟩ ∧ ∀ j u, (mcells ms3)[j]? = some u → w5.cell? ⟨g, off + j, none⟩ = some u := fun h => let ⟨g, off, a, b⟩ := HQ6W.out h; ⟨g, off, a, fun j u hj => hx55.cell (b j u hj)⟩
  have HO5 := Lib.hid (show w5.ownsRow w4.heap.size 39 5 v5 l.length (mcells ms2) from hown5)
  have HX55 := Lib.hid hx55
  have HQ6 := Lib.hid hq6
  have HSZ : Hid (w4.heap.size ≤ w5.heap.size) := hx55.size
  clear hown5 hgr5 hx55 hq6
  go_wp2_with (at_builtin; refine wpList_append_D (by rw [guardOk_eq]; rfl) (.tmp 59) (.tmp 60) rfl w4.heap.size v5 l.length (mcells ms2) rfl HO5.out A3 m.length c3 ms3 rfl HQ5.out HQ2.out HQ6.out HQ7.out (by omega) HSZ.out ?_)
  intro v6 w6 hown6 hgr6
  have hx66 : Ext w4 w6 := HX55.out.grown hgr6 (fun k hk => (HO5.out.lt k hk).1)
  have hdl6 : DL w6 v6 (l ++ m) := by
    have h := hown6
    rw [← mcells_append] at h
    have := (DL.own h (fun x hx => by
      rcases List.mem_append.1 hx with hx | hx
      · exact (((HP8B.out x hx).ext hx66)).mono hx66.size
      · exact ((HQ8.out x hx).ext hx66).mono hx66.size)).1
    rw [List.map_append, HP1.out, HQ1.out] at this
    exact this
  have hsm := same_self _ v6 (l ++ m) w6 (HD4B.out.ext hx66) hdl6
  have HSM := Lib.hid hsm
  have HX66 := Lib.hid hx66
  obtain ⟨A6, c6, -, rfl, -⟩ := hdl6
  clear hown6 hgr6 hx66 hsm
  go_wp2_with fail
  simp only [List.length_append] at HSM
  refine HSM.out.mono ?_
  rintro e w7 ⟨rfl, hx7⟩
  go_wp2_with fail
  go_ret
  exact ⟨rfl, (H14.out.trans HX66.out).trans hx7⟩
end Go.Proofs.YtapjhnlnfliljaaDoor
