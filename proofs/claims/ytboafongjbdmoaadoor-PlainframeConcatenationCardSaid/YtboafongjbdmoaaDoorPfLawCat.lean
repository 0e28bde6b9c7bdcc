/- The law PlainframeConcatenation returns true. (Layer 26) -/
import Derived.Test.YtboafongjbdmoaaDoorPfLawText
import Derived.Laws.AppendOwnNone
import Derived.BigQuiet
namespace Go.Proofs.YtboafongjbdmoaaDoor
open Go.RowKit
open Go.Lib hiding intOf
set_option linter.unusedVariables false

theorem str_same (x : ByteArray) : (x.toList == x.toList) = true := beq_self_eq_true _
theorem prB_append (a b : List UInt8) : prB (a ++ b) = (prB a && prB b) := List.all_append
theorem cellsP_append (l m : List Pc) : cellsP (l ++ m) = cellsP l ++ cellsP m := by simp [cellsP]
theorem cellsP_len (l : List Pc) : (cellsP l).length = l.length * 4 := by
  induction l with
  | nil => rfl
  | cons x l ih => show (x.cells ++ cellsP l).length = _; rw [List.length_append, ih, List.length_cons]; simp [Pc.cells]; omega
theorem cellsP_one (l : List Pc) : ∀ u ∈ cellsP l, u.oneCell' = true := by
  intro u hu
  obtain ⟨x, _, hx⟩ := List.mem_flatMap.1 hu
  simp [Pc.cells] at hx
  rcases hx with rfl | rfl | rfl | rfl <;> rfl
theorem PLst.at_cell {w : World} {b n cap : Nat} {l : List Pc} (h : PLst w (some ⟨b, 0, none⟩) n cap l) : ∀ j u, (cellsP l)[j]? = some u → w.cell? ((⟨b, 0, none⟩ : Addr).add j) = some u := by
  intro j u hu
  have hj : j < (cellsP l).length := by
    rcases Nat.lt_or_ge j (cellsP l).length with h' | h'
    · exact h'
    · rw [List.getElem?_eq_none h'] at hu; cases hu
  rw [cellsP_len] at hj
  have hi : j / 4 < l.length := by omega
  obtain ⟨b', hb', hc⟩ := h.at_ (by rw [h.len]; omega)
  injection hb' with hb'
  injection hb' with hb'
  subst hb'
  obtain ⟨k1, k2, k3, k4⟩ := hc _ hi
  obtain ⟨g1, g2, g3, g4⟩ := cellsP_get l _ hi
  have ha : (⟨b, 0, none⟩ : Addr).add j = ⟨b, j, none⟩ := by
    unfold Addr.add
    split
    · rename_i h0; rw [h0]
    · show (⟨b, 0 + j, none⟩ : Addr) = _
      rw [Nat.zero_add]
  rw [ha]
  have h4 : j % 4 = 0 ∨ j % 4 = 1 ∨ j % 4 = 2 ∨ j % 4 = 3 := by omega
  rcases h4 with h4 | h4 | h4 | h4
  · rw [show j / 4 * 4 = j by omega] at k1 g1; rw [g1] at hu; cases hu; exact k1
  · rw [show j / 4 * 4 + 1 = j by omega] at k2 g2; rw [g2] at hu; cases hu; exact k2
  · rw [show j / 4 * 4 + 2 = j by omega] at k3 g3; rw [g3] at hu; cases hu; exact k3
  · rw [show j / 4 * 4 + 3 = j by omega] at k4 g4; rw [g4] at hu; cases hu; exact k4
theorem PcPost.open2 {w w' : World} {l : List Pc} {E : Int} {e : Ending} (h : PcPost w l E e w') :
    ∃ A cap, e = .returned (.tuple #[.slice A l.length cap, .int .i64 E]) ∧ PLst w' A l.length cap l ∧ (A = none → cap = 0) ∧ (∀ p, A = some p → p.spot = none ∧ p.off = 0) ∧ Ext w w' := by
  obtain ⟨v, rfl, hown, hx⟩ := h
  obtain ⟨A, cap, rfl, hl⟩ := PLst.of_own hown
  refine ⟨A, cap, rfl, hl, ?_, ?_, hx⟩
  · rintro rfl
    rcases hown.2 with ⟨h1, _⟩ | ⟨g, c, cur, h1, _⟩
    · injection h1 with _ _ h1
    · injection h1 with h1; cases h1
  · rintro p rfl
    rcases hown.2 with ⟨h1, _⟩ | ⟨g, c, cur, h1, _⟩
    · injection h1 with h1; cases h1
    · injection h1 with h1
      injection h1 with h1
      rw [h1]; exact ⟨rfl, rfl⟩
/-- an append of a list of frames to a row that the function owns -/
theorem wpList_append_pl {w : World} {ops : Array Oper} {rest : List Oper} {o : Oper} {a : Act} {Q : Exit → Act → World → Prop} (hgd : o.guard = none) (s x : Operand)
    (ho : o.op = .call { callee := .builtin .append, args := #[s, x], argTypes := #[24, 24] })
    (base : Nat) (v : Value) (n : Nat) (xs : List Value) (hs : a.eval s = v) (hown : w.ownsRow base 31 4 v n xs) (A : Option Addr) (m c : Nat) (l : List Pc) (hx : a.eval x = .slice A m c) (hl : PLst w A m c l)
    (hA : A = none → c = 0) (hP : ∀ p, A = some p → p.spot = none ∧ p.off = 0) (hb : n + m ≤ 100000) (hbase : base ≤ w.heap.size)
    (h : ∀ v' w', w'.ownsRow base 31 4 v' (n + m) (xs ++ cellsP l) → w.grownBy w' v.ownBlock → wpList Tryd.prog ops Q rest (a.put o.dst v') w') : wpList Tryd.prog ops Q (o :: rest) a w := by
  obtain ⟨i0, hi0, hz0, hz1, hz2⟩ := info_parts plainInfo
  match A, hx, hl, hA, hP with
  | none, hx, hl, hA, _ =>
    have hm : m = 0 := by
      rcases Nat.eq_zero_or_pos m with h0 | h0
      · exact h0
      · obtain ⟨_, h1, _⟩ := hl.at_ h0; cases h1
    subst hm
    obtain rfl := hA rfl
    have hl0 : l = [] := List.eq_nil_of_length_eq_zero hl.len.symm
    subst hl0
    refine wpList_append_own_none hgd s x _ ho base _ i0 4 Tryd.underlying24 hi0 v n xs hs hown hx ?_
    exact h v w (by rw [Nat.add_zero, show cellsP [] = [] from rfl, List.append_nil]; exact hown) ⟨rfl, rfl, rfl, Nat.le_refl _, fun _ _ _ => rfl⟩
  | some p, hx, hl, _, hP =>
    obtain ⟨b, off, spot⟩ := p
    obtain ⟨h1, h2⟩ := hP _ rfl
    simp only at h1 h2
    subst h1 h2
    exact wpList_append_own _ hgd s x _ ho base _ i0 _ 4 40 Tryd.underlying24 hi0 hz0 hz1 hz2 rfl (by omega) v n xs hs hown ⟨b, 0, none⟩ m c (cellsP l) hx (by rw [cellsP_len, hl.len]) hl.at_cell (cellsP_one l) (by unfold maxLen; omega) (by omega) hbase fun v' w' k1 k2 _ => h v' w' k1 k2

/-- the pieces of a text behind a text of whole pieces -/
theorem cat_total (a b : ByteArray) (h : a.size % 64 = 0) : totalN (a ++ b).size = totalN a.size + totalN b.size ∧ totalN a.size * 64 = a.size := by
  unfold totalN
  rw [ByteArray.size_append]
  omega
theorem full_whole (a : ByteArray) (h : a.size % 64 = 0) : fullB a = a := by
  unfold fullB
  rw [(cat_total a ByteArray.empty h).2, Nat.sub_self]
  exact ByteArray.append_empty
theorem full_cat (a b : ByteArray) (h : a.size % 64 = 0) : fullB (a ++ b) = a ++ fullB b := by
  obtain ⟨h1, h2⟩ := cat_total a b h
  apply bytes_inj
  unfold fullB
  rw [h1, ByteArray.size_append, Nat.add_mul, h2]
  rw [show a.size + totalN b.size * 64 - (a.size + b.size) = totalN b.size * 64 - b.size by omega]
  simp
theorem pc_get (s : ByteArray) (arch i : Nat) (h : i < (piecesP s arch).length) : (piecesP s arch)[i] = pieceP s arch i := by simp [piecesP]
theorem cat_text (a b : ByteArray) (arch i : Nat) (h : a.size % 64 = 0) (hi : i < (piecesP a arch ++ piecesP b arch).length) :
    (piecesP a arch ++ piecesP b arch)[i].text = (fullB (a ++ b)).extract (i * 64) ((i + 1) * 64) := by
  obtain ⟨h1, h2⟩ := cat_total a b h
  rw [full_cat a b h]
  have hl := pieces_len a arch
  by_cases hlt : i < (piecesP a arch).length
  · rw [List.getElem_append_left hlt, pc_get]
    show (fullB a).extract (i * 64) ((i + 1) * 64) = _
    rw [full_whole a h]
    apply bytes_inj
    rw [ext_BA, ext_BA, BA_data, BA_data]
    have hz : a.data.toList.length = a.size := rfl
    rw [show (a ++ fullB b).data.toList = a.data.toList ++ (fullB b).data.toList by simp, List.drop_append_of_le_length (by omega), List.take_append_of_le_length (by rw [List.length_drop]; omega)]
  · rw [List.getElem_append_right (by omega), pc_get]
    show (fullB b).extract ((i - (piecesP a arch).length) * 64) ((i - (piecesP a arch).length + 1) * 64) = _
    apply bytes_inj
    rw [ext_BA, ext_BA, BA_data, BA_data]
    have hz : a.data.toList.length = a.size := rfl
    have e1 : (a ++ fullB b).data.toList.drop (i * 64) = (fullB b).data.toList.drop ((i - (piecesP a arch).length) * 64) := by
      rw [show (a ++ fullB b).data.toList = a.data.toList ++ (fullB b).data.toList by simp, List.drop_append, List.drop_eq_nil_of_le (by omega), List.nil_append]
      congr 1
      omega
    rw [e1]
    congr 1
    omega

set_option maxRecDepth 100000 in
set_option maxHeartbeats 3200000 in
theorem lawCat_any (a b : ByteArray) (arch : Nat) (w : World) (ha : a.size ≤ maxLen) (hb : b.size ≤ maxLen) (hsum : a.size + b.size ≤ 4611686018427387904) (hr : arch < 4294967296) (hE : Env w) :
    Calls Tryd.prog 5 #[.string a, .string b, .int .u32 arch] w fun e w' => e = .returned (.bool true) ∧ Ext w w' := by
  have HW := Lib.hid (fun W (h : Env W) => awake_any W h)
  have ha' := ha
  have hb' := hb
  unfold maxLen at ha hb
  by_cases h6 : (600 : Int) < (a.size : Int) + b.size
  · go_enter Tryd.func5, Tryd.ntmps5
    go_wp2_with fail
    refine (HW.out _ hE).mono ?_
    rintro e w1 ⟨rfl, hx⟩
    go_wp2_with fail
    go_ret
    exact ⟨rfl, hx⟩
  by_cases h64 : a.size % 64 = 0
  rotate_left
  · have h64' : ((a.size : Int) % 64 == 0) = false := by rw [beq_eq_false_iff_ne]; omega
    have h64'' : ¬ ((a.size : Int) % 64 = 0) := by omega
    go_enter Tryd.func5, Tryd.ntmps5
    go_wp2_with fail
    refine (HW.out _ hE).mono ?_
    rintro e w1 ⟨rfl, hx⟩
    go_wp2_with fail
    go_ret
    exact ⟨rfl, hx⟩
  have h64' : (a.size : Int) % 64 = 0 := by omega
  have hzz : (a ++ b).size = a.size + b.size := ByteArray.size_append
  have hX := fun W => (split_any' a arch W ha').mono fun e w' h => PcPost.open2 h
  have hY := fun W => (split_any' b arch W hb').mono fun e w' h => PcPost.open2 h
  have hZ := fun W => (split_any' (a ++ b) arch W (by rw [hzz]; unfold maxLen; omega)).mono fun e w' h => PcPost.open2 h
  unfold splitA at hX hY hZ
  rw [if_neg (by omega)] at hX hY hZ
  have hpp : prB (a ++ b).data.toList = (prB a.data.toList && prB b.data.toList) := by rw [show (a ++ b).data.toList = a.data.toList ++ b.data.toList by simp, prB_append]
  by_cases hok : prB a.data.toList = true ∧ prB b.data.toList = true
  rotate_left
  · rw [hpp, if_pos (show (prB a.data.toList && prB b.data.toList) = false by
      cases h1 : prB a.data.toList <;> cases h2 : prB b.data.toList <;> first | rfl | exact absurd ⟨h1, h2⟩ hok)] at hZ
    have hcase : ∀ s : ByteArray, (if prB s.data.toList = false then (([] : List Pc), (3 : Int)) else (piecesP s arch, 0)).2 = 3 ∨ ((if prB s.data.toList = false then (([] : List Pc), (3 : Int)) else (piecesP s arch, 0)).2 = 0 ∧ prB s.data.toList = true) := by
      intro s
      cases hs : prB s.data.toList
      · rw [if_pos rfl]; exact .inl rfl
      · rw [if_neg (by decide)]; exact .inr ⟨rfl, rfl⟩
    have ca := hcase a
    have cb := hcase b
    generalize (if prB a.data.toList = false then (([] : List Pc), (3 : Int)) else (piecesP a arch, 0)) = RA at *
    generalize (if prB b.data.toList = false then (([] : List Pc), (3 : Int)) else (piecesP b arch, 0)) = RB at *
    obtain ⟨la, ea⟩ := RA
    obtain ⟨lb, eb⟩ := RB
    simp only at hX hY hZ ca cb
    have HX := Lib.hid hX
    have HY := Lib.hid hY
    have HZ := Lib.hid hZ
    clear hX hY hZ hcase
    rcases ca with rfl | ⟨rfl, ca⟩
    · go_enter Tryd.func5, Tryd.ntmps5
      go_wp2_with fail
      refine (HX.out _).mono ?_
      rintro e w1 ⟨A, cA, rfl, hlA, _, _, hx1⟩
      clear hlA
      go_wp2_with fail
      refine (HY.out _).mono ?_
      rintro e w2 ⟨B, cB, rfl, hlB, _, _, hx2⟩
      clear hlB
      go_wp2_with fail
      refine (HZ.out _).mono ?_
      rintro e w3 ⟨D, cD, rfl, hlD, _, _, hx3⟩
      clear hlD
      have hx03 := (hx1.trans hx2).trans hx3
      go_wp2_with fail
      refine (HW.out _ (hE.ext hx03)).mono ?_
      rintro e w4 ⟨rfl, hx⟩
      go_wp2_with fail
      go_ret
      exact ⟨rfl, hx03.trans hx⟩
    · rcases cb with rfl | ⟨rfl, cb⟩
      rotate_left
      · exact absurd ⟨ca, cb⟩ hok
      go_enter Tryd.func5, Tryd.ntmps5
      go_wp2_with fail
      refine (HX.out _).mono ?_
      rintro e w1 ⟨A, cA, rfl, hlA, _, _, hx1⟩
      clear hlA
      go_wp2_with fail
      refine (HY.out _).mono ?_
      rintro e w2 ⟨B, cB, rfl, hlB, _, _, hx2⟩
      clear hlB
      go_wp2_with fail
      refine (HZ.out _).mono ?_
      rintro e w3 ⟨D, cD, rfl, hlD, _, _, hx3⟩
      clear hlD
      have hx03 := (hx1.trans hx2).trans hx3
      go_wp2_with fail
      refine (HW.out _ (hE.ext hx03)).mono ?_
      rintro e w4 ⟨rfl, hx⟩
      go_wp2_with fail
      go_ret
      exact ⟨rfl, hx03.trans hx⟩
  obtain ⟨pa, pb⟩ := hok
  rw [hpp, pa, pb, if_neg (by decide)] at hZ
  rw [pa, if_neg (by decide)] at hX
  rw [pb, if_neg (by decide)] at hY
  simp only at hX hY hZ
  obtain ⟨t1, t2⟩ := cat_total a b h64
  have lx := pieces_len a arch
  have ly := pieces_len b arch
  have lz := pieces_len (a ++ b) arch
  have htx := fun i hi => cat_text a b arch i h64 hi
  have hzg := pieces_get (a ++ b) arch
  rw [t1] at lz hzg
  have hT1 : totalN a.size ≤ 10 := by unfold totalN; omega
  have hT2 : totalN b.size ≤ 10 := by unfold totalN; omega
  rw [lx] at hX
  rw [ly] at hY
  rw [lz] at hZ
  have hLl : (piecesP a arch ++ piecesP b arch).length = totalN a.size + totalN b.size := by rw [List.length_append, lx, ly]
  generalize hLx : piecesP a arch = Lx at *
  generalize hLy : piecesP b arch = Ly at *
  generalize piecesP (a ++ b) arch = Lz at *
  generalize fullB (a ++ b) = F at *
  generalize totalN a.size = T1 at *
  generalize totalN b.size = T2 at *
  have HX := Lib.hid hX
  have HY := Lib.hid hY
  have HZ := Lib.hid hZ
  have HT := Lib.hid htx
  have HG := Lib.hid hzg
  have HL := Lib.hid hLl
  have HLz := Lib.hid lz
  clear hX hY hZ htx hzg hLl lz lx ly t1 t2 hpp pa pb hLx hLy
  go_enter Tryd.func5, Tryd.ntmps5
  go_wp2_with fail
  refine (HX.out _).mono ?_
  rintro e w1 ⟨A, cA, rfl, hlA, hA1, hA2, hx1⟩
  have HLA := Lib.hid hlA
  clear hlA
  go_wp2_with fail
  refine (HY.out _).mono ?_
  rintro e w2 ⟨B, cB, rfl, hlB, hB1, hB2, hx2⟩
  have HLA := Lib.hid (HLA.out.ext hx2)
  have HLB := Lib.hid hlB
  clear hlB
  go_wp2_with fail
  refine (HZ.out _).mono ?_
  rintro e w3 ⟨D, cD, rfl, hlD, hD1, hD2, hx3⟩
  have HLA := Lib.hid (HLA.out.ext hx3)
  have HLB := Lib.hid (HLB.out.ext hx3)
  have hroom := hlD.room
  have hmax := hlD.max
  unfold maxLen at hmax
  have HLD := Lib.hid hlD
  clear hlD
  have hx03 := (hx1.trans hx2).trans hx3
  have hcast : ((T1 + T2 : Nat) : Int) = (T1 : Int) + T2 := by omega
  clear hx1 hx2 hx3
  go_wp2_with (at_builtin; refine wpList_append_pl rfl (.tmp 76) (.tmp 77) rfl w3.heap.size _ 0 [] rfl (own_empty w3 w3.heap.size _ 4 (Nat.le_refl _)) A T1 cA Lx rfl ?k2 hA1 hA2 ?k3 ?k4 ?_)
  case k2 => exact HLA.out.ext ((Ext.refl _).alloc _)
  case k3 => omega
  case k4 => simp
  intro v1 w4 ho1 hg1
  have hx4 : Ext w3 w4 := ((Ext.refl w3).alloc _).grown hg1 (fun k hk => by simp [Value.ownBlock] at hk; omega)
  have HO1 := Lib.hid ho1
  have HLB4 := Lib.hid (HLB.out.ext hx4)
  have hsz4 := hx4.size
  clear ho1 hg1
  go_wp2_with (at_builtin; refine wpList_append_pl rfl (.tmp 78) (.tmp 79) rfl w3.heap.size v1 T1 _ rfl HO1.out B T2 cB Ly rfl HLB4.out hB1 hB2 ?m3 ?m4 ?_)
  case m3 => omega
  case m4 => exact hx4.size
  intro v2 w5 ho2 hg2
  have hx5 : Ext w3 w5 := hx4.grown hg2 (fun k hk => (HO1.out.lt k hk).1)
  first | rw [← cellsP_append, ← HL.out] at ho2 | rw [List.nil_append, ← cellsP_append, Nat.zero_add, ← HL.out] at ho2
  obtain ⟨E, cE, rfl, hlE⟩ := PLst.of_own ho2
  rw [HL.out] at hlE
  have hroomE := hlE.room
  have hmaxE := hlE.max
  unfold maxLen at hmaxE
  have HLE := Lib.hid hlE
  have HLD5 := Lib.hid (HLD.out.ext hx5)
  have hx05 := hx03.trans hx5
  simp only [HL.out]
  clear ho2 hg2 hlE hx4 hsz4 hA1 hA2 hB1 hB2 hD1 hD2
  go_wp2_with fail
  go_loopw [82] (fun iv wr => ∃ i : Nat, iv = .int .i64 i ∧ i ≤ T1 + T2 ∧ Ext w5 wr) (fun iv _ => T1 + T2 - (intOf iv).toNat)
  case atStart => exact ⟨0, rfl, Nat.zero_le _, Ext.refl _⟩
  case round =>
    obtain ⟨i, rfl, hi, hx⟩ := hrel
    by_cases hlt : i < T1 + T2
    · obtain ⟨b1, rfl, hc1⟩ := HLE.out.at_ (by omega)
      obtain ⟨b2, rfl, hc2⟩ := HLD5.out.at_ (by omega)
      have hil : i < (Lx ++ Ly).length := by rw [HL.out]; exact hlt
      have hil2 : i < Lz.length := by rw [HLz.out]; exact hlt
      obtain ⟨e1, e2, e3, e4⟩ := hc1 i hil
      obtain ⟨f1, f2, f3, f4⟩ := hc2 i hil2
      have ht := HT.out i hil
      rw [HG.out i hil2] at f1 f2 f3 f4
      simp only at f1 f2 f3 f4
      rw [ht] at e4
      generalize (Lx ++ Ly)[i] = x at *
      obtain ⟨xa, xi, xt, xs⟩ := x
      simp only at e1 e2 e3 e4 ht
      subst ht
      generalize F.extract (i * 64) ((i + 1) * 64) = t at *
      rw [hcast] at f3
      have e1 := hx.cell e1
      have e2 := hx.cell e2
      have e3 := hx.cell e3
      have e4 := hx.cell e4
      have hy : Ext w5 (wr.alloc (.cells #[.int .u32 xa, .int .i64 xi, .int .i64 xt, .string t] 31)) := hx.alloc _
      have f1 := hy.cell f1
      have f2 := hy.cell f2
      have f3 := hy.cell f3
      have f4 := hy.cell f4
      have hss := str_same t
      have hcc : (((T1 : Int) + T2) == ((T1 : Int) + T2)) = true := beq_self_eq_true _
      have HC1 := Lib.hid hc1
      have HC2 := Lib.hid hc2
      clear hc1 hc2
      go_wp2_with fail
      go_quiet (fail)
      go_wp2_with fail
      go_roundw
      case rel => exact ⟨i + 1, by go_num, by omega, (hx.alloc _).drewN _⟩
      case measure => simp [intOf]; omega
    · obtain rfl : i = T1 + T2 := by omega
      have hx2 := hx05.trans hx
      go_wp2_with fail
      refine (HW.out _ (hE.ext hx2)).mono ?_
      rintro e w6 ⟨rfl, hx6⟩
      go_wp2_with fail
      go_ret
      exact ⟨rfl, hx2.trans hx6⟩
end Go.Proofs.YtboafongjbdmoaaDoor
