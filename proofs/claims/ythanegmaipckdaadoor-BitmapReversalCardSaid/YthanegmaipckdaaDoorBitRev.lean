/- The law BitmapReversal returns true. (Layer 52) -/
import Derived.Test.YthanegmaipckdaaDoorBitAlive
import Derived.Test.YthanegmaipckdaaDoorBitInvP
import Derived.Test.YthanegmaipckdaaDoorBytesMem
namespace Go.Proofs.YthanegmaipckdaaDoor
open Go.RowKit
open Go.Lib hiding intOf
set_option linter.unusedVariables false

theorem str_sameV (x : ByteArray) : (x.toList == x.toList) = true := beq_self_eq_true _
theorem own_emptyV (w : World) (base : Nat) (e : TypeId) (size : Nat) (hb : base ≤ w.heap.size) : (w.alloc (.cells #[] e)).ownsRow base e size (.slice (some ⟨w.heap.size, 0, none⟩) 0 0) 0 [] :=
  ⟨by simp, Or.inr ⟨w.heap.size, 0, #[], rfl, hb, World.alloc_heap_new w _, Nat.le_refl _, Nat.zero_le _, by simp, by simp⟩⟩
/-- an append to an owned row of another type leaves an owned row -/
theorem own_grownV {w w' : World} {base : Nat} {e : TypeId} {size n : Nat} {v : Value} {xs : List Value} (h : w.ownsRow base e size v n xs) {base2 : Nat} {e2 : TypeId} {size2 n2 : Nat} {v2 : Value} {ys : List Value}
    (h2 : w.ownsRow base2 e2 size2 v2 n2 ys) (hT : e ≠ e2) (hg : w.grownBy w' v2.ownBlock) : w'.ownsRow base e size v n xs := by
  refine h.kept hg ?_
  rcases h.2 with ⟨rfl, _⟩ | ⟨g, cap, cur, rfl, _, hgb, _⟩
  · exact Or.inl rfl
  · refine Or.inr fun e' => ?_
    rcases h2.2 with ⟨rfl, _⟩ | ⟨g2, cap2, cur2, rfl, _, hgb2, _⟩
    · simp [Value.ownBlock] at e'
    · have : g = g2 := by simpa [Value.ownBlock] using e'
      subst this
      rw [hgb] at hgb2
      injection hgb2 with h3
      injection h3 with _ h4 _
      exact hT h4
/-- a row of bytes that is owned, as a string -/
theorem own_string {w : World} {base g cap : Nat} {l : List UInt8} (h : w.ownsRow base 5 1 (.slice (some ⟨g, 0, none⟩) l.length cap) l.length (Lib.byteCells l)) :
    (convert 35 9 (.slice (some ⟨g, 0, none⟩) l.length cap)).run Tryd.prog w = .ok (.string (BA l)) w :=
  run_convert_bytes_back w 35 9 5 ⟨g, 0, none⟩ cap l Tryd.underlying35 Tryd.underlying5 Tryd.underlying9 (by
    intro j hj
    have := h.cells (g := g) rfl j (.int .u8 (l[j].toNat : Int)) (by simp [Lib.byteCells, hj])
    exact this)
theorem Tryd.infoStrV : (Tryd.prog.info? 9).map (fun i => (i.zero, i.size, i.bytes)) = some (some (.string ByteArray.empty), 1, 16) := by kernel_rfl
theorem Tryd.infoByte : (Tryd.prog.info? 5).map (fun i => (i.zero, i.size, i.bytes)) = some (some (.int .u8 0), 1, 1) := by kernel_rfl
theorem rev_step (L : List UInt8) (m : Nat) (h : m < L.length) : (L.drop m).reverse = (L.drop (m + 1)).reverse ++ [L[m]] := by
  rw [List.drop_eq_getElem_cons h, List.reverse_cons]
theorem byteCells_snoc (l : List UInt8) (c : UInt8) : Lib.byteCells (l ++ [c]) = Lib.byteCells l ++ [.int .u8 (c.toNat : Int)] := by simp [Lib.byteCells]
theorem revRows_step (rows : List ByteArray) (m : Nat) (h : m < rows.length) : revRows (rows.drop m) = revRows (rows.drop (m + 1)) ++ [BA rows[m].data.toList.reverse] := by
  unfold revRows
  rw [List.drop_eq_getElem_cons h, List.reverse_cons, List.map_append]; rfl
/-- where the turning stands -/
theorem turn_step (t : List UInt8) (i : Nat) (h : i < t.length) (tu ru : List UInt8) : turnS (t.drop i) tu ru = if isPx t[i] = true then turnS (t.drop (i + 1)) (ru ++ [t[i]] ++ tu) [] else turnS (t.drop (i + 1)) tu (ru ++ [t[i]]) := by
  rw [List.drop_eq_getElem_cons h, turnS]

set_option maxHeartbeats 8000000 in
set_option maxRecDepth 100000 in
theorem lawRev_any (A : Option Addr) (n cap : Nat) (rows : List ByteArray) (w : World) (hl : Lst w A n cap (rows.map .string)) (hz : ∀ r ∈ rows, r.size ≤ maxLen) (hE : Env w) (hY : Sy w) :
    Calls Tryd.prog 7 #[.slice A n cap] w fun e w' => e = .returned (.bool true) ∧ Ext w w' := by
  have HAL := Lib.hid (alive_any w hE hY)
  have hlen : n = rows.length := by simpa using hl.len
  have hroom := hl.room
  have hmax := hl.max
  unfold maxLen at hmax
  have hG := fun W (h : Lst W A n cap (rows.map .string)) => great_any A n cap rows W h hz
  have hC := fun W (h : Lst W A n cap (rows.map .string)) (h1 : Env W) => bcompress_any A n cap rows W h hz h1
  have HG := Lib.hid hG
  have HL := Lib.hid hl
  have HN := Lib.hid hlen
  have HC := Lib.hid hC
  clear hG hC hz hl hlen
  go_enter Tryd.func7, Tryd.ntmps7
  go_wp2_with fail
  refine HAL.out.mono ?_
  rintro e w1 ⟨rfl, hx1⟩
  go_wp2_with fail
  refine (HG.out _ (HL.out.ext hx1)).mono ?_
  rintro e w2 ⟨g, hg, rfl, hx2⟩
  rcases hg with ⟨rfl, hsm⟩ | rfl
  case inr =>
    go_wp2_with fail
    go_ret
    exact ⟨rfl, hx1.trans hx2⟩
  have hx12 := hx1.trans hx2
  have hn201 : n ≤ 201 := by have := HN.out; have := hsm.1; omega
  have HSM := Lib.hid hsm
  clear hsm
  go_wp2_with fail
  go_loopw [3, 4] (fun bv iv wr => ∃ (j : Nat) (z : Int), iv = .int .i64 z ∧ j ≤ n ∧ z ≤ (j : Int) - 1 ∧ (j : Int) - 1 ≤ z ∧ wr.ownsRow w.heap.size 9 1 bv (revRows (rows.drop j)).length ((revRows (rows.drop j)).map .string) ∧ Ext w wr) (fun _ iv _ => (intOf iv + 1).toNat)
  case atStart =>
    refine ⟨n, (n : Int) - 1, rfl, Nat.le_refl _, Int.le_refl _, Int.le_refl _, ?_, hx12⟩
    rw [List.drop_of_length_le (by have := HN.out; omega)]
    exact World.ownsRow_nil _ _ _ _
  case round =>
    obtain ⟨j, z, rfl, hj, hz1, hz2, hown, hx⟩ := hrel
    have HO := Lib.hid hown
    clear hown
    by_cases hj0 : 0 < j
    · obtain ⟨m, rfl⟩ : ∃ m, j = m + 1 := ⟨j - 1, by omega⟩
      obtain rfl : z = (m : Int) := by omega
      have hmn : m < n := by omega
      have hml : m < rows.length := by have := HN.out; omega
      obtain ⟨b, off, rfl, hc⟩ := HL.out.at_ (by omega)
      have hcell0 := hc m (by rw [List.length_map]; exact hml)
      rw [List.getElem_map] at hcell0
      have hcell := hx.cell hcell0
      have hcell2 := (hx.alloc (.cells #[] 5)).cell hcell0
      have hr300 := HSM.out.2 rows[m] (List.getElem_mem hml)
      have hstep := Lib.hid (revRows_step rows m hml)
      have hrl : (revRows (rows.drop (m + 1))).length ≤ 201 := by
        have := HSM.out.1
        simp only [revRows, List.length_map, List.length_reverse, List.length_drop]
        omega
      generalize rows[m] = r at *
      generalize revRows (rows.drop (m + 1)) = RV at *
      have HCL := Lib.hid hc
      have hrsl : Hid (r.data.toList.length = r.size) := rfl
      clear hc hz1 hz2 hj hj0
      go_wp2_with fail
      have hxa := hx.alloc (.cells #[] 5)
      have hemp := own_emptyV wr w.heap.size 5 1 hx.size
      have hown2 := own_ext HO.out ((Ext.refl wr).alloc (.cells #[] 5))
      have hb0 : Hid (([] : List UInt8) = (r.data.toList.drop r.size).reverse) := by
        show _ = _
        rw [List.drop_of_length_le (by rw [hrsl.out]; exact Nat.le_refl _)]; rfl
      go_loopw [5, 6] (fun rv kv wi => ∃ (p : Nat) (z : Int) (g cap2 : Nat) (D : List UInt8), kv = .int .i64 z ∧ p ≤ r.size ∧ z ≤ (p : Int) - 1 ∧ (p : Int) - 1 ≤ z ∧ D = (r.data.toList.drop p).reverse ∧ D.length ≤ 300 ∧ rv = .slice (some ⟨g, 0, none⟩) D.length cap2 ∧
          wi.ownsRow w.heap.size 5 1 (.slice (some ⟨g, 0, none⟩) D.length cap2) D.length (Lib.byteCells D) ∧ wi.ownsRow w.heap.size 9 1 u3 RV.length (RV.map .string) ∧ Ext w wi) (fun _ kv _ => (intOf kv + 1).toNat)
      case atStart => exact ⟨r.size, (r.size : Int) - 1, wr.heap.size, 0, [], rfl, Nat.le_refl _, Int.le_refl _, Int.le_refl _, hb0.out, Nat.zero_le _, rfl, hemp, hown2, hxa⟩
      case round =>
        obtain ⟨p, z, g, cap2, D, rfl, hp, hz1, hz2, hD, hDl, rfl, hownD, hownR, hxi⟩ := hrel
        have HO := Lib.hid hownD
        have HR := Lib.hid hownR
        have HD := Lib.hid hD
        have hcell3 := hxi.cell hcell0
        clear hownD hownR hD
        by_cases hp0 : 0 < p
        · obtain ⟨q, rfl⟩ : ∃ q, p = q + 1 := ⟨p - 1, by omega⟩
          obtain rfl : z = (q : Int) := by omega
          have hqr : q < r.size := by omega
          have hnx : Hid (D ++ [r[q]] = (r.data.toList.drop q).reverse) := by
            show _ = _
            rw [rev_step _ q (by rw [hrsl.out]; exact hqr), ← HD.out]; rfl
          have hbc : Hid (Lib.byteCells (D ++ [r[q]]) = Lib.byteCells D ++ [.int .u8 (r[q].toNat : Int)]) := byteCells_snoc _ _
          have hDl2 : (D ++ [r[q]]).length ≤ 300 := by
            have := congrArg List.length hnx.out
            rw [List.length_reverse, List.length_drop, hrsl.out] at this
            omega
          have hlen2 : Hid ((D ++ [r[q]]).length = D.length + 1) := by show _ = _; simp
          clear hz1 hz2 hp hp0 hemp hown2
          obtain ⟨i0, hi, hz0, hz1, hz2⟩ := info_parts Tryd.infoByte
          go_wp2_with (at_builtin; refine wpList_append_own _ rfl (.tmp 39) (.tmp 46) _ rfl w.heap.size 5 i0 _ 1 1 Tryd.underlying35 hi hz0 hz1 hz2 rfl (by omega) _ _ _ rfl (HO.out.alloc _) ⟨wr.heap.size, 0, none⟩ 1 1 [.int .u8 (r[q].toNat : Int)] rfl rfl ?c1 ?c2 ?c3 ?c4 ?c5 ?_)
          case c1 =>
            intro j u hu
            match j, hu with
            | 0, hu => simp at hu; subst hu; go_cell
          case c2 =>
            intro u hu
            simp at hu
            subst hu; rfl
          case c3 => unfold maxLen; omega
          case c4 => omega
          case c5 => (have hc5 := hxi.size; try simp at hc5); simp; omega
          intro v' w2 hown2 hgr _
          have hx3 := (hxi.alloc (.cells #[.int .u8 (r[q].toNat : Int)] 5)).grown hgr (fun k hk => (HO.out.lt k hk).1)
          have HO2 := Lib.hid hown2
          have HG := Lib.hid hgr
          clear hown2 hgr
          obtain ⟨g2, cap3, rfl⟩ := ownsRow_succ HO2.out
          have hR2 := Lib.hid (own_grownV (own_ext HR.out ((Ext.refl wr).alloc _)) (HO.out.alloc _) (by decide) HG.out)
          go_wp2_with fail
          go_roundw
          case rel =>
            refine ⟨q, (q : Int) - 1, g2, cap3, D ++ [r[q]], by go_num, by omega, Int.le_refl _, Int.le_refl _, hnx.out, hDl2, by rw [hlen2.out], ?_, hR2.out, hx3⟩
            rw [hlen2.out, hbc.out]
            exact HO2.out
          case measure => simp [intOf] <;> omega
        · obtain rfl : p = 0 := by omega
          have hzneg : z < 0 := by omega
          have hDr : Hid (BA D = BA r.data.toList.reverse) := by
            show _ = _
            rw [HD.out]; rfl
          have hcv := own_string HO.out
          have hbc : Hid ((revRows (rows.drop m)).map Value.string = RV.map Value.string ++ [.string (BA D)]) := by
            show _ = _
            rw [hstep.out, List.map_append, hDr.out]; rfl
          have hlen2 : Hid ((revRows (rows.drop m)).length = RV.length + 1) := by show _ = _; rw [hstep.out]; simp
          generalize BA D = X at *
          have HO := HR
          clear hz1 hz2 hp hp0 hemp hown2
          obtain ⟨i0, hi, hz0, hz1, hz2⟩ := info_parts Tryd.infoStrV
          go_wp2_with (at_builtin; refine wpList_append_own _ rfl (.tmp 48) (.tmp 51) _ rfl w.heap.size 9 i0 _ 1 16 Tryd.underlying23 hi hz0 hz1 hz2 rfl (by omega) _ _ _ rfl (HO.out.alloc _) ⟨wr.heap.size, 0, none⟩ 1 1 [.string X] rfl rfl ?c1 ?c2 ?c3 ?c4 ?c5 ?_)
          case c1 =>
            intro j u hu
            match j, hu with
            | 0, hu => simp at hu; subst hu; go_cell
          case c2 =>
            intro u hu
            simp at hu
            subst hu; rfl
          case c3 => unfold maxLen; omega
          case c4 => omega
          case c5 => (have hc5 := hxi.size; try simp at hc5); simp; omega
          intro v' w2 hown2 hgr _
          have hx3 := (hxi.alloc (.cells #[.string X] 9)).grown hgr (fun k hk => (HO.out.lt k hk).1)
          have HO2 := Lib.hid hown2
          have HG := Lib.hid hgr
          clear hown2 hgr
          go_wp2_with fail
          go_roundw
          case rel =>
            refine ⟨m, (m : Int) - 1, by go_num, by omega, Int.le_refl _, Int.le_refl _, ?_, hx3⟩
            rw [hlen2.out, hbc.out]
            exact HO2.out
          case measure => simp [intOf] <;> omega
    · obtain rfl : j = 0 := by omega
      have hzneg : z < 0 := by omega
      rw [List.drop_zero] at HO
      obtain ⟨B, cB, rfl, hlB⟩ := Lst.of_own HO.out
      have HLB := Lib.hid hlB
      have hrev300 : ∀ r ∈ revRows rows, r.size ≤ maxLen := by
        intro r hr
        obtain ⟨x, hx, rfl⟩ := List.mem_map.1 hr
        have h1 := HSM.out.2 x (List.mem_reverse.1 hx)
        have e : x.data.toList.length = x.size := rfl
        rw [BA_size, List.length_reverse, e]
        unfold maxLen; omega
      have hC2 := fun W (h : Lst W B (revRows rows).length cB ((revRows rows).map .string)) (h1 : Env W) => bcompress_any B _ cB (revRows rows) W h hrev300 h1
      have hEr := hE.ext hx
      have hdz : decide (0 ≤ z) = false := decide_eq_false (by omega)
      clear hz1 hz2 hlB hrev300 hj hj0
      by_cases hp : picE rows = 0
      · have hcz : compZ rows = (encB (runsB (catB rows)), widthB rows, 0) := by unfold compZ; rw [if_pos hp]
        have hC1 := HC.out
        rw [hcz] at hC1
        rw [comp_rev hp] at hC2
        simp only at hC1 hC2
        have htc := turn_comp hp
        have hel := encB_runs_len (catB rows).reverse
        rw [runsB_reverse, List.length_reverse] at hel
        obtain ⟨q1, q2, q3, q4, q5, q6⟩ := pic_len hp
        have hcl : (catB rows).length ≤ 40000 := by rw [(pic_cat hp).2]; exact Nat.mul_le_mul q4 q3
        have htl : (encB (runsB (catB rows)).reverse).length ≤ 120000 := by omega
        generalize hTL : encB (runsB (catB rows)).reverse = TL at *
        generalize encB (runsB (catB rows)) = SL at *
        generalize (widthB rows : Int) = wi at *
        have hts : (BA TL).size = TL.length := BA_size TL
        have HC1 := Lib.hid hC1
        have HC2 := Lib.hid hC2
        have HTC := Lib.hid htc
        have hss := str_sameV (BA SL)
        have hww : (wi == wi) = true := beq_self_eq_true _
        clear hcz hC1 hC2 htc hel q1 q2 q3 q4 q5 q6 hcl hTL hp
        go_wp2_with fail
        refine (HC1.out _ (HL.out.ext hx) hEr).mono ?_
        rintro e w4 ⟨rfl, hx4⟩
        go_wp2_with fail
        refine (HC2.out _ (HLB.out.ext hx4) (hEr.ext hx4)).mono ?_
        rintro e w5 ⟨rfl, hx5⟩
        have hx05 := (hx.trans hx4).trans hx5
        have htget : Hid ((BA TL).data.toList = TL) := rfl
        have HTS := Lib.hid hts
        have ht2 : (BA TL).size ≤ 120000 := by omega
        have hstart : Hid (BA [] = ByteArray.empty) := rfl
        clear hts
        obtain ⟨T, hT⟩ : ∃ T, T = BA TL := ⟨_, rfl⟩
        rw [← hT] at htget HTS ht2 ⊢
        have HT := Lib.hid hT
        clear hT
        go_wp2_with fail
        go_loop [13, 14, 15] (fun tv rv iv => ∃ (i : Nat) (tu ru : List UInt8), iv = .int .i64 i ∧ tv = .string (BA tu) ∧ rv = .string (BA ru) ∧ i ≤ T.size ∧ tu.length ≤ i ∧ ru.length + tu.length ≤ i ∧ turnS (TL.drop i) tu ru = (SL, [])) (fun _ _ iv => T.size - (intOf iv).toNat)
        case atStart => exact ⟨0, [], [], rfl, rfl, rfl, Nat.zero_le _, Nat.zero_le _, Nat.zero_le _, HTC.out⟩
        case round =>
          obtain ⟨i, tu, ru, rfl, rfl, rfl, hi, htu, hru, htn⟩ := hrel
          have HTN := Lib.hid htn
          clear htn
          by_cases hlt : i < T.size
          · have hil : i < TL.length := by have := HTS.out; omega
            have hst := turn_step TL i hil tu ru
            rw [HTN.out] at hst
            have hc : T[i] = TL[i] := by
              have e1 : T.data.toList[i]? = some T[i] := List.getElem?_eq_getElem (show i < T.data.toList.length from hlt)
              rw [htget.out, List.getElem?_eq_getElem hil] at e1
              exact (Option.some.inj e1).symm
            rw [← hc] at hst
            have hext : Hid (BA ru ++ T.extract i (i + 1) = BA (ru ++ [T[i]])) := by
              show _ = _
              rw [BA_append]
              congr 1
              exact bytes_inj (by rw [ext_oneB T i hlt, BA_data])
            have hxz : (T.extract i (i + 1)).size = 1 := by
              have := congrArg List.length (ext_oneB T i hlt)
              exact this
            have hrz : (BA ru).size ≤ i := by rw [BA_size]; omega
            have htz : (BA tu).size ≤ i := by rw [BA_size]; exact htu
            have hcc := px_cases T[i]
            cases hpx : isPx T[i] with
            | true =>
              rw [hpx] at hcc hst
              rw [if_pos rfl] at hst
              have hp2 := of_decide_eq_true hcc.symm
              have hnx := Lib.hid hst.symm
              have hnew : Hid (BA ru ++ T.extract i (i + 1) ++ BA tu = BA (ru ++ [T[i]] ++ tu)) := by show _ = _; rw [hext.out, ← BA_append]
              have hl2 : (ru ++ [T[i]] ++ tu).length ≤ i + 1 := by simp only [List.length_append, List.length_cons, List.length_nil]; omega
              clear hc hst hcc hpx
              rcases hp2 with hp2 | hp2
              · have t46 : ((((T[i]).toNat : Nat) : Int) == 46) = true := by rw [beq_iff_eq]; omega
                clear hp2
                go_wp2_with fail
                go_round
                case rel => exact ⟨i + 1, ru ++ [T[i]] ++ tu, [], by go_num, by rw [← hnew.out], rfl, by omega, hl2, by simpa using hl2, hnx.out⟩
                case measure => simp [intOf]; omega
              · have t46 : ((((T[i]).toNat : Nat) : Int) == 46) = false := by rw [beq_eq_false_iff_ne]; omega
                have t35 : ((((T[i]).toNat : Nat) : Int) == 35) = true := by rw [beq_iff_eq]; omega
                clear hp2
                go_wp2_with fail
                go_round
                case rel => exact ⟨i + 1, ru ++ [T[i]] ++ tu, [], by go_num, by rw [← hnew.out], rfl, by omega, hl2, by simpa using hl2, hnx.out⟩
                case measure => simp [intOf]; omega
            | false =>
              rw [hpx] at hcc hst
              rw [if_neg (by decide)] at hst
              have hp2 := of_decide_eq_false hcc.symm
              have hnx := Lib.hid hst.symm
              have t46 : ((((T[i]).toNat : Nat) : Int) == 46) = false := by rw [beq_eq_false_iff_ne]; omega
              have t35 : ((((T[i]).toNat : Nat) : Int) == 35) = false := by rw [beq_eq_false_iff_ne]; omega
              have hl2 : (ru ++ [T[i]]).length + tu.length ≤ i + 1 := by simp only [List.length_append, List.length_cons, List.length_nil]; omega
              clear hc hst hcc hpx hp2
              go_wp2_with fail
              go_round
              case rel => exact ⟨i + 1, tu, ru ++ [T[i]], by go_num, rfl, by rw [← hext.out], by omega, by omega, hl2, hnx.out⟩
              case measure => simp [intOf]; omega
          · obtain rfl : i = T.size := by omega
            have h2 := HTN.out
            rw [List.drop_of_length_le (by have := HTS.out; omega), turnS] at h2
            injection h2 with h3 h4
            subst h3
            subst h4
            have hnil : ((BA []).toList == []) = true := by rw [beq_iff_eq, ByteArray.toList_eq]; rfl
            have hnil' : (BA []).toList = [] := by simpa using hnil
            clear htget
            go_wp2_with fail
            go_ret
            exact ⟨rfl, hx05⟩
      · have hcz : compZ rows = ([], 0, picE rows) := by unfold compZ; rw [if_neg hp]
        have hcz2 : compZ (revRows rows) = ([], 0, picE (revRows rows)) := by unfold compZ; rw [if_neg (pic_rev_ne hp)]
        have hC1 := HC.out
        rw [hcz] at hC1
        rw [hcz2] at hC2
        simp only at hC1 hC2
        have hp1 : (picE rows != 0) = true := bne_iff_ne.2 hp
        have hp2 : (picE (revRows rows) != 0) = true := bne_iff_ne.2 (pic_rev_ne hp)
        have hnil : ((BA []).toList == []) = true := by rw [beq_iff_eq, ByteArray.toList_eq]; rfl
        have hnil' : (BA []).toList = [] := by simpa using hnil
        clear hcz hcz2 hp
        generalize picE (revRows rows) = z2 at *
        generalize picE rows = z1 at *
        have HC1 := Lib.hid hC1
        have HC2 := Lib.hid hC2
        clear hC1 hC2
        go_wp2_with fail
        refine (HC1.out _ (HL.out.ext hx) hEr).mono ?_
        rintro e w4 ⟨rfl, hx4⟩
        go_wp2_with fail
        refine (HC2.out _ (HLB.out.ext hx4) (hEr.ext hx4)).mono ?_
        rintro e w5 ⟨rfl, hx5⟩
        go_wp2_with fail
        go_ret
        exact ⟨rfl, (hx.trans hx4).trans hx5⟩
end Go.Proofs.YthanegmaipckdaaDoor
