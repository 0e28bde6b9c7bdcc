/- document.format as one contract, document.Format. (Layer 49) -/
import Derived.Test.YtapjhnlnfliljaaDoorDocEq3
namespace Go.Proofs.YtapjhnlnfliljaaDoor
open Go.RowKit
open Go.Lib hiding intOf
open Dec
set_option linter.unusedVariables false

theorem strInfo : (Tryd.prog.info? 9).map (fun i => (i.zero, i.size, i.bytes)) = some (some (.string .empty), 1, 16) := by kernel_rfl
theorem format_any (x : MB) (w : World) (hm : MOk w w.heap.size x) (hk : KindB x.b) (hz : wtB x.b ≤ 200000) (hE : Env w) (u : Bytes) (hu : fmtB x.b = some u) :
    Calls Tryd.prog 32 #[blkV x] w fun e w' => e = .returned (.tuple #[.string (BA u), .int .i64 0]) ∧ Ext w w' := by
  obtain ⟨hs, hr⟩ := hm
  have hs2 : ∃ A n c, x.vw = .slice A n c := let ⟨A, c, h, _⟩ := hs; ⟨A, _, c, h⟩
  have hr2 : ∃ A n c, x.vr = .slice A n c := let ⟨A, c, _, h, _⟩ := hr; ⟨A, _, c, h⟩
  obtain ⟨k1, k2, k3⟩ := hk
  unfold fmtB at hu
  by_cases e1 : x.b.kind = 1
  · rw [if_pos e1, Option.some.injEq] at hu
    rw [← hu]; exact format_1 x w hs hr2 e1 hz
  rw [if_neg e1] at hu
  by_cases e2 : x.b.kind = 2
  · rw [if_pos e2, Option.some.injEq] at hu
    rw [← hu]; exact format_2 x w hs hr2 e2 hz
  rw [if_neg e2] at hu
  by_cases e3 : x.b.kind = 3
  · rw [if_pos e3, Option.some.injEq] at hu
    rw [← hu]; exact format_3 x w hs2 hr e3 hz
  rw [if_neg e3, if_pos (by omega), Option.some.injEq] at hu
  rw [← hu]; exact format_4 x w hs2 hr2 (by omega) k3 hz hE
theorem partsA_get : ∀ (l : List DB) (ps : List Bytes), partsA l = some ps → ps.length = l.length ∧ ∀ (k : Nat) (h1 : k < l.length) (h2 : k < ps.length), fmtB l[k] = some ps[k]
  | [], ps, h => by
    rw [partsA, Option.some.injEq] at h
    subst h
    exact ⟨rfl, fun k h1 => absurd h1 (Nat.not_lt_zero _)⟩
  | b :: r, ps, h => by
    rw [partsA] at h
    cases hb : fmtB b with
    | none => rw [hb] at h; cases h
    | some x =>
      rw [hb] at h
      cases hr : partsA r with
      | none => rw [hr] at h; cases h
      | some qs =>
        rw [hr] at h
        simp only [Option.map_some, Option.some.injEq] at h
        subst h
        obtain ⟨i1, i2⟩ := partsA_get r qs hr
        refine ⟨by simp [i1], fun k h1 h2 => ?_⟩
        cases k with
        | zero => exact hb
        | succ k => exact i2 k (by simpa using h1) (by simpa using h2)
set_option maxRecDepth 100000 in
set_option maxHeartbeats 6400000 in
theorem Format_any (v : Value) (l : List DB) (w : World) (h : DL w v l) (hkd : ∀ x ∈ l, KindB x) (hz : wtL l ≤ 200000) (hE : Env w) (hS : Sy w) :
    Calls Tryd.prog 18 #[v] w fun e w' => e = .returned (.tuple #[.string (BA (formatA l).1), .int .i64 ((formatA l).2 : Nat)]) ∧ Ext w w' := by
  obtain ⟨i0, hi, hz0, hz1, hz2⟩ := info_parts strInfo
  obtain ⟨ps, hps, hpl⟩ := partsA_some l hkd
  obtain ⟨hlen, hget⟩ := partsA_get l ps hps
  have hjl := joinA_len [10] rfl ps
  have hpn := len_lenS ps
  obtain ⟨F, hF⟩ : ∃ F, F = formatA l := ⟨_, rfl⟩
  rw [← hF]
  unfold formatA at hF
  rw [hps] at hF
  dsimp only at hF
  have HF := Lib.hid hF
  have HDL := Lib.hid h
  obtain ⟨A1, c1, ms1, rfl, e1, r1, x1, k1, q1⟩ := h.elim
  have hw : ∀ (k : Nat) (h : k < l.length), wtB l[k] ≤ wtL l := fun k h => wt_mem (List.getElem_mem h)
  obtain ⟨n, hn⟩ : ∃ n, n = l.length := ⟨_, rfl⟩
  rw [← hn] at r1 q1 ⊢
  have hnp : n ≤ 200000 := by omega
  have HN := Lib.hid hn
  have HP := Lib.hid hlen
  have HG := Lib.hid hget
  have HKD := Lib.hid hkd
  have HW := Lib.hid hw
  have HK1 := Lib.hid k1
  have HE1 := Lib.hid e1
  have HQ1 := Lib.hid q1
  have HJ : Hid ((joinA [10] ps).length ≤ 200000) := by show _ ≤ _; omega
  clear hF h hps hlen hget hpl hjl hpn e1 k1 q1 hw hkd hn
  go_enter Tryd.func18, Tryd.ntmps18
  go_wp2_with fail
  go_loopw [4, 6, 7, 8, 15] (fun o q6 q7 q8 i wr => ∃ k : Nat, k ≤ n ∧ i = .int .i64 k ∧ wr.ownsRow w.heap.size 9 1 o k (strsV (ps.take k)) ∧ Ext w wr) (fun _ _ _ _ i _ => n - (intOf i).toNat)
  case atStart => exact ⟨0, Nat.zero_le _, rfl, World.ownsRow_nil _ _ _ _, Ext.refl _⟩
  case round =>
    obtain ⟨k, hk, rfl, hown, hx⟩ := hrel
    by_cases hkn : k < n
    · have kl : k < l.length := by rw [← HN.out]; exact hkn
      have kp : k < ps.length := by rw [HP.out]; exact kl
      have ka : k < ms1.length := by rw [← List.length_map MB.b, HE1.out]; exact kl
      obtain ⟨g1, o1, rfl, hg1, q1⟩ := HQ1.out (by omega)
      obtain ⟨a0, a1, a2, a3, a4⟩ := q1 k ms1[k] (List.getElem?_eq_getElem ka)
      have hm1 := (HK1.out ms1[k] (List.getElem_mem ka)).ext hx
      have a0 := hx.cell a0
      have a1 := hx.cell a1
      have a2 := hx.cell a2
      have a3 := hx.cell a3
      have a4 := hx.cell a4
      have hxb : l[k] = ms1[k].b := by
        have h : (ms1.map MB.b)[k]? = some ms1[k].b := by rw [List.getElem?_map, List.getElem?_eq_getElem ka]; rfl
        rw [HE1.out, List.getElem?_eq_getElem kl] at h
        exact Option.some.inj h
      have hu := HG.out k kl kp
      have hkb := HKD.out l[k] (List.getElem_mem kl)
      have hwt := HW.out k kl
      rw [hxb] at hu hkb hwt
      have hst : Hid (strsV (ps.take (k + 1)) = strsV (ps.take k) ++ [.string (BA ps[k])]) := by
        show _ = _
        rw [List.take_succ_eq_append_getElem kp, strsV_snoc]
      have HFM := Lib.hid (fun W (h : Ext wr W) => format_any ms1[k] W (hm1.ext h).top hkb (by omega) (hE.ext (hx.trans h)) ps[k] hu)
      unfold blkV at HFM
      clear hxb hu hkb hwt q1 kl
      obtain ⟨⟨wa1, wc1, hw1, -, -⟩, ⟨ra1, rc1, rv1, hr1, -, -⟩⟩ := hm1
      generalize ms1[k] = x at *
      generalize ps[k] = u at *
      rw [hw1] at a1
      rw [hr1] at a2
      rw [hw1, hr1] at HFM
      have hxx : Ext wr (wr.alloc (.cells #[.int .i64 (x.b.kind : Int), .slice wa1 x.b.words.length wc1, .slice ra1 x.b.rows.length rc1, .string (BA x.b.runs), .int .i64 (x.b.width : Int)] 39)) := (Ext.refl wr).alloc _
      have HOW := Lib.hid hown
      clear hown hw1 hr1 ka kp
      go_wp2_with fail
      refine (HFM.out _ hxx).mono ?_
      rintro e w2 ⟨rfl, hx2⟩
      have hx12 := hxx.trans hx2
      have HO := Lib.hid (own_ext HOW.out hx12)
      have hx2 := hx.trans hx12
      clear hxx hx12
      generalize BA u = X at *
      go_wp2_with (at_builtin; refine wpList_append_own _ rfl (.tmp 27) (.tmp 29) _ rfl w.heap.size 9 i0 _ 1 16 Tryd.underlying30 hi hz0 hz1 hz2 rfl (by omega) _ _ _ rfl (HO.out.alloc _) ⟨w2.heap.size, 0, none⟩ 1 1 [.string X] rfl rfl ?c1 ?c2 ?c3 ?c4 ?c5 ?_)
      case c1 =>
        intro j u hu
        match j, hu with
        | 0, hu => simp at hu; subst hu; go_cell
      case c2 =>
        intro u hu
        simp at hu
        subst hu; rfl
      case c3 => unfold maxLen; omega
      case c4 => omega
      case c5 => (have hc5 := hx2.size; try simp at hc5); simp; omega
      intro v' w2 hown2 hgr _
      have hx3 := (hx2.alloc (.cells #[.string X] 9)).grown hgr (fun k hk => (HO.out.lt k hk).1)
      have HO2 := Lib.hid hown2
      have HG := Lib.hid hgr
      clear hown2 hgr
      go_wp2_with fail
      go_roundw
      case rel =>
        refine ⟨k + 1, by omega, by go_num, ?_, hx3⟩
        rw [hst.out]
        exact HO2.out
      case measure => simp [intOf]; omega
    · obtain rfl : k = n := by omega
      have hpk : ps.take k = ps := List.take_of_length_le (by rw [HP.out, ← HN.out]; exact Nat.le_refl _)
      rw [hpk] at hown
      have hsl := (SL.own hown).1
      have hjz := HJ.out
      have hpz : ps.length ≤ 200000 := by rw [HP.out, ← HN.out]; exact hnp
      have HJN := Lib.hid (joinD_any ⟨#[10]⟩ _ _ ps wr hsl (show (joinA [10] ps).length ≤ _ by omega) (by omega))
      rw [show (⟨#[10]⟩ : ByteArray).data.toList = [10] from rfl] at HJN
      have hpj := fun W (h : Ext w W) => parse_any (BA (joinA [10] ps)) W (hE.ext h) (hS.ext h) (by rw [BA_size]; unfold maxLen; omega)
      rw [BA_data] at hpj
      have HPJ := Lib.hid hpj
      have hjs := BA_size (joinA [10] ps)
      clear hpk hown hsl hpz hpj
      generalize joinA [10] ps = J at *
      by_cases hbig : 20000 < J.length
      · have hd : decide ((20000 : Int) < ((BA J).size : Int)) = true := decide_eq_true (by omega)
        have hff := HF.out
        rw [if_pos hbig] at hff
        have HFF := Lib.hid hff
        clear hbig hff hjs hjz
        generalize BA J = JB at *
        go_wp2_with fail
        refine HJN.out.mono ?_
        rintro e w2 ⟨rfl, hx2⟩
        go_wp2_with fail
        go_ret2
        exact ⟨by rw [HFF.out]; rfl, hx.trans hx2⟩
      · have hd : decide ((20000 : Int) < ((BA J).size : Int)) = false := decide_eq_false (by omega)
        have hff := HF.out
        rw [if_neg hbig] at hff
        obtain ⟨m, q, e, hp⟩ : ∃ m q e, parseA J = (m, q, e) := ⟨_, _, _, rfl⟩
        rw [hp] at hff HPJ
        dsimp only at hff
        have HEQ := Lib.hid (fun W v (h : Ext w W) (hm : DL W v m) => eqf_any v _ m l W hm (HDL.out.ext h))
        by_cases he : e = 0
        rotate_left
        · have hee : (((e : Nat) : Int) != 0) = true := by simp; omega
          rw [if_pos (.inl he)] at hff
          have HFF := Lib.hid hff
          clear hbig hff hjs hjz hp he
          generalize BA J = JB at *
          go_wp2_with fail
          refine HJN.out.mono ?_
          rintro e w2 ⟨rfl, hx2⟩
          have hx3 := hx.trans hx2
          go_wp2_with fail
          refine (HPJ.out _ hx3).mono ?_
          rintro e w3 ⟨v3, rfl, hdl, hx4⟩
          go_wp2_with fail
          go_ret2
          exact ⟨by rw [HFF.out]; rfl, hx3.trans hx4⟩
        · subst he
          have hjd := hjs
          clear hjs
          have HBA : Hid ((BA J) = BA J) := rfl
          have HFF := Lib.hid hff
          clear hff hbig hjd hjz hp
          by_cases hml : m = l
          · have hdm : decide (m = l) = true := decide_eq_true hml
            have HO : Hid (F = (J, 0)) := by
              show _ = _
              rw [HFF.out, if_neg]
              rintro (h | h)
              · exact h rfl
              · exact h hml
            rw [hdm] at HEQ
            clear HFF hml hdm
            generalize hJB : BA J = JB at *
            have HJB := Lib.hid hJB
            clear hJB
            go_wp2_with fail
            refine HJN.out.mono ?_
            rintro e w2 ⟨rfl, hx2⟩
            have hx3 := hx.trans hx2
            go_wp2_with fail
            refine (HPJ.out _ hx3).mono ?_
            rintro e w3 ⟨v3, rfl, hdl, hx4⟩
            have hx5 := hx3.trans hx4
            have HQ := Lib.hid (HEQ.out w3 v3 hx5 hdl)
            rw [← HN.out] at HQ
            go_wp2_with fail
            refine HQ.out.mono ?_
            rintro e w4 ⟨rfl, hx6⟩
            go_wp2_with fail
            go_ret2
            exact ⟨by rw [HO.out, HJB.out]; rfl, hx5.trans hx6⟩
          · have hdm : decide (m = l) = false := decide_eq_false hml
            have HO : Hid (F = ([], 3)) := by
              show _ = _
              rw [HFF.out, if_pos (.inr hml)]
            rw [hdm] at HEQ
            clear HFF hml hdm
            generalize BA J = JB at *
            go_wp2_with fail
            refine HJN.out.mono ?_
            rintro e w2 ⟨rfl, hx2⟩
            have hx3 := hx.trans hx2
            go_wp2_with fail
            refine (HPJ.out _ hx3).mono ?_
            rintro e w3 ⟨v3, rfl, hdl, hx4⟩
            have hx5 := hx3.trans hx4
            have HQ := Lib.hid (HEQ.out w3 v3 hx5 hdl)
            rw [← HN.out] at HQ
            go_wp2_with fail
            refine HQ.out.mono ?_
            rintro e w4 ⟨rfl, hx6⟩
            go_wp2_with fail
            go_ret2
            exact ⟨by rw [HO.out]; rfl, hx5.trans hx6⟩
end Go.Proofs.YtapjhnlnfliljaaDoor
