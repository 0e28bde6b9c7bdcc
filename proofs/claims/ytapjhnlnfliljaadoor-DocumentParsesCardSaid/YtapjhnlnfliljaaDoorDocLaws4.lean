/- The law DocumentBlanks. (Layer 49) UNDER WAY -/
import Derived.Test.YtapjhnlnfliljaaDoorDocLaws3
namespace Go.Proofs.YtapjhnlnfliljaaDoor
open Go.RowKit
open Go.Lib hiding intOf
open Dec
set_option linter.unusedVariables false

theorem blanksA_snoc (j : Nat) (x : Bytes) : ∀ ps : List Bytes, blanksA j (ps ++ [x]) = blanksA j ps ++ (x ++ [32, 10] ++ List.replicate j 10)
  | [] => by simp [blanksA]
  | y :: r => by rw [List.cons_append, blanksA, blanksA_snoc j x r, blanksA]; simp
theorem repeatL_oneD (c : UInt8) (k : Nat) : Lib.repeatL [c] k = List.replicate k c := by
  have := Lib.repeatL_replicate c 1 k
  rwa [Nat.mul_one] at this
/-- strings.Repeat of one byte -/
theorem repeatD_any (c : UInt8) (n : Nat) (w : World) (hn : n ≤ 100000) :
    Calls Tryd.prog 19 #[.string ⟨#[c]⟩, .int .i64 n] w fun e w' => e = .returned (.string (BA (List.replicate n c))) ∧ Ext w w' := by
  match n, hn with
  | 0, _ =>
    refine (Tryd.strings_Repeat_zero ⟨#[c]⟩ w).mono ?_
    rintro e w' ⟨rfl, rfl⟩
    exact ⟨rfl, Ext.refl _⟩
  | 1, _ =>
    refine (Tryd.strings_Repeat_one ⟨#[c]⟩ w).mono ?_
    rintro e w' ⟨rfl, rfl⟩
    exact ⟨rfl, Ext.refl _⟩
  | n + 2, hn =>
    refine (Tryd.strings_Repeat_main ⟨#[c]⟩ (n + 2) w (by omega) (by omega) (by show 1 * (n + 2) ≤ _; omega) (show 0 < 1 by decide)).mono ?_
    rintro e w' ⟨rfl, hx⟩
    refine ⟨?_, hx⟩
    have e1 : (⟨#[c]⟩ : ByteArray).data.toList = [c] := rfl
    rw [e1, repeatL_oneD]
    rfl
theorem blanksA_len2 (j : Nat) (hj : j ≤ 2) : ∀ ps : List Bytes, (blanksA j ps).length ≤ lenS ps + 3 * ps.length
  | [] => by simp [blanksA]
  | x :: r => by
    have := blanksA_len2 j hj r
    rw [blanksA, lenS_cons]
    simp only [List.length_append, List.length_cons, List.length_nil, List.length_replicate]
    omega
theorem wt_count : ∀ l : List DB, 8 * l.length ≤ wtL l
  | [] => by simp
  | b :: r => by
    have := wt_count r
    have h : wtL (b :: r) = wtB b + wtL r := by unfold wtL; rw [List.map_cons, List.sum_cons]
    have h2 : 8 ≤ wtB b := by unfold wtB; omega
    rw [h, List.length_cons]
    omega
/-- a slice of one block that lies alone in a new block of memory -/
theorem DL.one {w : World} {g : Nat} {x : MB} (hb : Blk w g 39 x.cells) (hm : MOk w w.heap.size x) : DL w (.slice (some ⟨g, 0, none⟩) 1 1) [x.b] := by
  have hc : mcells [x] = x.cells := by simp [mcells]
  refine ⟨some ⟨g, 0, none⟩, 1, [x], rfl, rfl, Nat.le_refl _, by unfold maxLen; omega, fun e => (by cases e), fun _ => ⟨g, 0, rfl, fun i u hu => ?_⟩, fun y hy => ?_⟩
  · rw [hc] at hu
    have := hb.cell (i := i) hu
    rw [Nat.zero_add]
    exact this
  · rw [List.mem_singleton] at hy
    subst hy
    exact hm
set_option maxRecDepth 100000 in
set_option maxHeartbeats 6400000 in
theorem lawBlanks_any (s : ByteArray) (kk : Nat) (hkk : kk < 256) (w : World) (hs : s.size ≤ maxLen) (hE : Env w) (hS : Sy w) :
    Calls Tryd.prog 8 #[.string s, .int .u8 (kk : Int)] w fun e w' => e = .returned (.bool true) ∧ Ext w w' := by
  have HA := Lib.hid (fun W (h : Ext w W) => alive_any W (hE.ext h) (hS.ext h))
  have hsl : s.data.toList.length = s.size := by simp
  unfold maxLen at hs
  by_cases hbig : 1000 < s.size
  · have hd : decide ((1000 : Int) < (s.size : Int)) = true := decide_eq_true (by omega)
    clear hbig hsl
    go_enter Tryd.func8, Tryd.ntmps8
    go_wp2_with fail
    refine (HA.out _ (Ext.refl w)).mono ?_
    rintro e w1 ⟨rfl, hx1⟩
    go_wp2_with fail
    go_ret
    exact ⟨rfl, hx1⟩
  have hd : decide ((1000 : Int) < (s.size : Int)) = false := decide_eq_false (by omega)
  have HP := Lib.hid (fun W (h : Ext w W) => parse_any s W (hE.ext h) (hS.ext h) (by unfold maxLen; omega))
  obtain ⟨l, n, e, hp⟩ : ∃ l n e, parseA s.data.toList = (l, n, e) := ⟨_, _, _, rfl⟩
  rw [hp] at HP
  by_cases he : e = 0
  rotate_left
  · have hee : (((e : Nat) : Int) != 0) = true := by simp; omega
    clear hp hbig hsl he
    go_enter Tryd.func8, Tryd.ntmps8
    go_wp2_with fail
    refine (HA.out _ (Ext.refl w)).mono ?_
    rintro e w1 ⟨rfl, hx1⟩
    go_wp2_with fail
    refine (HP.out _ hx1).mono ?_
    rintro e w2 ⟨v, rfl, hdl, hx2⟩
    go_wp2_with fail
    go_ret
    exact ⟨rfl, hx1.trans hx2⟩
  subst he
  have hwt := parse_wt hp
  rw [hsl] at hwt
  have hwt : wtL l ≤ 9009 := by omega
  have hkd := parse_kind hp
  have HR := Lib.hid (fun W m (h : m ≤ 4) => repeatD_any 10 m W (by omega))
  clear hp hbig hsl
  go_enter Tryd.func8, Tryd.ntmps8
  go_wp2_with fail
  refine (HA.out _ (Ext.refl w)).mono ?_
  rintro e w1 ⟨rfl, hx1⟩
  go_wp2_with fail
  refine (HP.out _ hx1).mono ?_
  rintro e w2 ⟨v, rfl, hdl, hx2⟩
  have hx12 := hx1.trans hx2
  go_wp2_with fail
  rw [show ((kk : Int) % 4) = ((kk % 4 : Nat) : Int) by omega]
  refine (HR.out _ _ (by omega)).mono ?_
  rintro e w3 ⟨rfl, hx3⟩
  have hx13 := hx12.trans hx3
  have hdl3 := hdl.ext hx3
  have HDL := Lib.hid hdl3
  obtain ⟨A1, c1, ms1, rfl, e1, r1, x1, k1, q1⟩ := hdl3.elim
  obtain ⟨nn, hnn⟩ : ∃ nn, nn = l.length := ⟨_, rfl⟩
  rw [← hnn] at r1 q1 ⊢
  obtain ⟨ps, hps, hpl⟩ := partsA_some l hkd
  obtain ⟨hlen, hget⟩ := partsA_get l ps hps
  have hw : ∀ (k : Nat) (h : k < l.length), wtB l[k] ≤ wtL l := fun k h => wt_mem (List.getElem_mem h)
  have hbl := blanksA_len (kk % 3) (by omega)
  have hlt : ∀ k, lenS (ps.take k) ≤ lenS ps := fun k => by
    have : lenS (ps.take k ++ ps.drop k) = lenS ps := by rw [List.take_append_drop]
    rw [lenS_append] at this
    omega
  have hxz : ∀ (k : Nat) (h : k < ps.length), ps[k].length + 1 ≤ 10000 := fun k h => by
    have h1 := hlt (k + 1)
    rw [List.take_succ_eq_append_getElem h, lenS_append] at h1
    have : lenS [ps[k]] = ps[k].length + 1 := by simp [lenS]
    omega
  have HN := Lib.hid hnn
  have HPn := Lib.hid hlen
  have HG := Lib.hid hget
  have HKD := Lib.hid hkd
  have HW := Lib.hid hw
  have HK1 := Lib.hid k1
  have HE1 := Lib.hid e1
  have HQ1 := Lib.hid q1
  have HBL := Lib.hid hbl
  have HLT := Lib.hid hlt
  have HXZ := Lib.hid hxz
  have HPL : Hid (lenS ps ≤ 9009) := by show _ ≤ _; omega
  have HWT : Hid (wtL l ≤ 9009) := by show _ ≤ _; omega
  clear hps hpl hlen hget hw hbl hlt hxz hkd k1 e1 q1 hwt hdl hdl3 hx1 hx2 hx3 hx12 hnn
  go_wp2_with fail
  go_loopw [8, 10, 11, 12, 35] (fun t q10 q11 q12 i wr => ∃ k : Nat, k ≤ nn ∧ i = .int .i64 k ∧ t = .string (BA (List.replicate (kk % 4) 10 ++ blanksA (kk % 3) (ps.take k))) ∧ (∀ (j : Nat) (h1 : j < l.length) (h2 : j < ps.length), j < k → parseA ps[j] = ([l[j]], 0, 0)) ∧ Ext w3 wr) (fun _ _ _ _ i _ => nn - (intOf i).toNat)
  case atStart => exact ⟨0, Nat.zero_le _, rfl, by rw [List.take_zero, blanksA, List.append_nil], fun j h1 h2 h => absurd h (Nat.not_lt_zero _), Ext.refl w3⟩
  case round =>
    obtain ⟨k, hk, rfl, rfl, hpar, hx⟩ := hrel
    have hxw := hx13.trans hx
    by_cases hkn : k < nn
    · have kl : k < l.length := by rw [← HN.out]; exact hkn
      have kp : k < ps.length := by rw [HPn.out]; exact kl
      have ka : k < ms1.length := by rw [← List.length_map MB.b, HE1.out]; exact kl
      obtain ⟨g1, o1, rfl, hg1, q1⟩ := HQ1.out (by omega)
      obtain ⟨a0, a1, a2, a3, a4⟩ := q1 k ms1[k] (List.getElem?_eq_getElem ka)
      have hm1 := (HK1.out ms1[k] (List.getElem_mem ka)).ext hx
      have a0 := hx.cell a0
      have a1 := hx.cell a1
      have a2 := hx.cell a2
      have a3 := hx.cell a3
      have a4 := hx.cell a4
      have hxb : l[k] = ms1[k].b := by
        have h : (ms1.map MB.b)[k]? = some ms1[k].b := by rw [List.getElem?_map, List.getElem?_eq_getElem ka]; rfl
        rw [HE1.out, List.getElem?_eq_getElem kl] at h
        exact Option.some.inj h
      have hu := HG.out k kl kp
      have hkb := HKD.out l[k] (List.getElem_mem kl)
      have hwt := HW.out k kl
      have hwl := HWT.out
      have huz := HXZ.out k kp
      have htz := HBL.out (ps.take k)
      have htl := HLT.out k
      have hpl := HPL.out
      obtain ⟨u', hu1, hfo⟩ := format_one hkb (by omega)
      rw [hu] at hu1
      obtain rfl := Option.some.inj hu1
      have HNEXT : Hid (parseA ps[k] = ([l[k]], 0, 0) → ∀ (j : Nat) (h1 : j < l.length) (h2 : j < ps.length), j < k + 1 → parseA ps[j] = ([l[j]], 0, 0)) := by
        intro h j h1 h2 h3
        rcases Nat.lt_or_ge j k with h4 | h4
        · exact hpar j h1 h2 h4
        · obtain rfl : j = k := by omega
          exact h
      have hst : Hid (blanksA (kk % 3) (ps.take (k + 1)) = blanksA (kk % 3) (ps.take k) ++ (ps[k] ++ [32, 10] ++ List.replicate (kk % 3) 10)) := by
        show _ = _
        rw [List.take_succ_eq_append_getElem kp, blanksA_snoc]
      have hdl1 := fun W (h : Ext wr W) g (hb : Blk W g 39 ms1[k].cells) => DL.one hb (hm1.ext h).top
      have hfm := fun W v (h : Ext wr W) (hd : DL W v [l[k]]) => Format_any v [l[k]] W hd (fun y hy => by rw [List.mem_singleton] at hy; subst hy; exact hkb) (by unfold wtL; simp; omega) (hE.ext (hxw.trans h)) (hS.ext (hxw.trans h))
      rw [hfo] at hfm
      rw [← hxb] at hdl1
      have HD1 := Lib.hid hdl1
      have HFM := Lib.hid hfm
      have HPAR := Lib.hid hpar
      clear hfm hdl1 hfo hu hu1 hkb hwt hwl q1 hpar hxb
      generalize l[k] = b at *
      obtain ⟨⟨wa1, wc1, hw1, -, -⟩, ⟨ra1, rc1, rv1, hr1, -, -⟩⟩ := hm1
      unfold MB.cells at HD1
      generalize ms1[k] = x at *
      generalize ps[k] = u at *
      rw [hw1] at a1
      rw [hr1] at a2
      rw [hw1, hr1] at HD1
      generalize ps.take k = pk at *
      have hjz : (BA (List.replicate (kk % 4) 10 ++ blanksA (kk % 3) pk)).size ≤ 40000 := by
        rw [BA_size, List.length_append, List.length_replicate]; omega
      have huz2 : (BA u).size ≤ 10000 := by rw [BA_size]; omega
      have hrz : (BA (List.replicate (kk % 3) 10)).size ≤ 3 := by rw [BA_size, List.length_replicate]; omega
      have HOUT : Hid (BA (List.replicate (kk % 4) 10 ++ (blanksA (kk % 3) pk ++ (u ++ [32, 10] ++ List.replicate (kk % 3) 10))) = BA (List.replicate (kk % 4) 10 ++ blanksA (kk % 3) pk) ++ (BA u ++ ⟨#[32, 10]⟩ ++ BA (List.replicate (kk % 3) 10))) := by
        show _ = _
        rw [← List.append_assoc, ← ba_cat, ← ba_cat, ← ba_cat]; rfl
      have HR3 := Lib.hid (fun W => HR.out W (kk % 3) (by omega))
      have hxx : Ext wr ((wr.alloc (.cells #[.int .i64 (x.b.kind : Int), .slice wa1 x.b.words.length wc1, .slice ra1 x.b.rows.length rc1, .string (BA x.b.runs), .int .i64 (x.b.width : Int)] 39)).alloc (.cells #[.int .i64 (x.b.kind : Int), .slice wa1 x.b.words.length wc1, .slice ra1 x.b.rows.length rc1, .string (BA x.b.runs), .int .i64 (x.b.width : Int)] 39)) := ((Ext.refl wr).alloc _).alloc _
      have hb2 := heap_alloc_new (wr.alloc (.cells #[.int .i64 (x.b.kind : Int), .slice wa1 x.b.words.length wc1, .slice ra1 x.b.rows.length rc1, .string (BA x.b.runs), .int .i64 (x.b.width : Int)] 39)) (.cells #[.int .i64 (x.b.kind : Int), .slice wa1 x.b.words.length wc1, .slice ra1 x.b.rows.length rc1, .string (BA x.b.runs), .int .i64 (x.b.width : Int)] 39)
      rw [show (wr.alloc (.cells #[.int .i64 (x.b.kind : Int), .slice wa1 x.b.words.length wc1, .slice ra1 x.b.rows.length rc1, .string (BA x.b.runs), .int .i64 (x.b.width : Int)] 39)).heap.size = wr.heap.size + 1 by simp] at hb2
      have HD2 := Lib.hid (HFM.out _ _ hxx (HD1.out _ hxx _ hb2))
      clear hw1 hr1 ka kl kp hg1 huz htz htl hpl hb2 HD1 HFM
      by_cases hbad : (parseA u).2.2 ≠ 0 ∨ (parseA u).1 ≠ [b]
      · rw [if_pos hbad] at HD2
        clear hbad HOUT HNEXT hst
        generalize BA (List.replicate (kk % 4) 10 ++ blanksA (kk % 3) pk) = T at *
        go_wp2_with fail
        refine HD2.out.mono ?_
        rintro e w4 ⟨rfl, hx4⟩
        go_wp2_with fail
        go_ret
        exact ⟨rfl, hxw.trans (hxx.trans hx4)⟩
      · rw [if_neg hbad] at HD2
        have hok : parseA u = ([b], 0, 0) := by
          have e1 : (parseA u).2.2 = 0 := Decidable.byContradiction fun e => hbad (.inl e)
          have e2 : (parseA u).1 = [b] := Decidable.byContradiction fun e => hbad (.inr e)
          obtain ⟨q1, q2, q3, hq⟩ : ∃ q1 q2 q3, parseA u = (q1, q2, q3) := ⟨_, _, _, rfl⟩
          rw [hq] at e1 e2 ⊢
          dsimp only at e1 e2
          subst e1 e2
          obtain ⟨-, rfl, -, -⟩ := parseA_ok hq
          rfl
        have HN2 := Lib.hid (HNEXT.out hok)
        clear hbad hok HNEXT
        generalize BA (List.replicate (kk % 4) 10 ++ blanksA (kk % 3) pk) = T at *
        generalize BA (List.replicate (kk % 3) 10) = RP at *
        have hm3 : ((kk : Int) % 3) = ((kk % 3 : Nat) : Int) := by omega
        have HM3 := Lib.hid hm3
        dsimp only at HD2
        generalize BA u = U at *
        clear hm3
        go_wp2_with fail
        refine HD2.out.mono ?_
        rintro e w4 ⟨rfl, hx4⟩
        have hx5 := hxx.trans hx4
        clear hxx hx4
        go_wp2_with fail
        rw [HM3.out]
        refine (HR3.out _).mono ?_
        rintro e w5 ⟨rfl, hx6⟩
        have hx7 := hx.trans (hx5.trans hx6)
        go_wp2_with fail
        go_roundw
        case rel => exact ⟨k + 1, by omega, by go_num, by rw [hst.out, HOUT.out], HN2.out, hx7⟩
        case measure => simp [intOf]; omega
    · obtain rfl : k = nn := by omega
      have hpk : ps.take k = ps := List.take_of_length_le (by rw [HPn.out, ← HN.out]; exact Nat.le_refl _)
      have htz := HBL.out ps
      have hpl := HPL.out
      have hb2 := blanksA_len2 (kk % 3) (by omega) ps
      have hb3 := wt_count l
      have hb4 := HWT.out
      have hb5 := HPn.out
      have hbp := blanks_parse (kk % 4) (kk % 3) l ps HPn.out (fun j h1 h2 => ⟨HG.out j h2 h1, hpar j h2 h1 (by rw [HN.out]; exact h2)⟩) (by omega)
      have hpj := fun W (h : Ext w W) => parse_any (BA (List.replicate (kk % 4) 10 ++ blanksA (kk % 3) ps)) W (hE.ext h) (hS.ext h) (by
        have : (BA (List.replicate (kk % 4) 10 ++ blanksA (kk % 3) ps)).size ≤ 40000 := by rw [BA_size, List.length_append, List.length_replicate]; omega
        exact Nat.le_trans this (by decide))
      rw [BA_data, hbp] at hpj
      have HPJ := Lib.hid hpj
      rw [hpk]
      clear hpk htz hpl hbp hpj hpar hb2 hb3 hb4 hb5
      generalize BA (List.replicate (kk % 4) 10 ++ blanksA (kk % 3) ps) = JB at *
      go_wp2_with fail
      refine (HPJ.out _ hxw).mono ?_
      rintro e w4 ⟨v4, rfl, hdl4, hx4⟩
      have HQ := Lib.hid (same_self _ v4 l w4 (HDL.out.ext (hx.trans hx4)) hdl4)
      rw [← HN.out] at HQ
      obtain ⟨A4, c4, rfl⟩ := hdl4.shape
      go_wp2_with fail
      refine HQ.out.mono ?_
      rintro e w5 ⟨rfl, hx5⟩
      go_wp2_with fail
      go_ret
      exact ⟨rfl, (hxw.trans hx4).trans hx5⟩
end Go.Proofs.YtapjhnlnfliljaaDoor
