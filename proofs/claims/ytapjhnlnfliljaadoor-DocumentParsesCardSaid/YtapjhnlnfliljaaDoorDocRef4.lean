/- The reference's Parse. (Layer 49) -/
import Derived.Test.YtapjhnlnfliljaaDoorDocRef3c
import Derived.Test.YtapjhnlnfliljaaDoorDocParse
import Derived.Deep.QuietTactic
import Derived.BigQuiet
namespace Go.Proofs.YtapjhnlnfliljaaDoor
open Go.RowKit
open Go.Lib hiding intOf
set_option linter.unusedVariables false
set_option linter.unusedSimpArgs false

theorem rline_last {wr w2 wB : World} {b : DB} {vw vr : Value} (hg : GoodB b) (h0 : b.kind ≠ 0) (hx : Ext w2 wB) (hs : wr.heap.size ≤ w2.heap.size) (h : RLine w2 wr.heap.size b vw vr) : ∃ M, wr.heap.size ≤ M ∧ M ≤ wB.heap.size ∧ LastOk wB M b.kind ⟨b, vw, vr⟩ := by
  have hsz := hx.size
  rcases hg with ⟨e0, e⟩ | ⟨h1, -, hr, -⟩ | ⟨h2, -, hr, -⟩ | ⟨h3, hw, -, -⟩ | ⟨h4, hw, hr, -⟩
  · exact absurd e0 h0
  · refine ⟨wB.heap.size, by omega, Nat.le_refl _, ?_⟩
    unfold LastOk
    rw [if_neg (by omega), if_neg (by omega)]
    refine ⟨((h.one h1).ext hx).top, ?_⟩
    show RL wB _ vr b.rows
    rw [h.nilr (by omega), hr]
    exact RL.nil _ _
  · refine ⟨wr.heap.size, Nat.le_refl _, by omega, ?_⟩
    unfold LastOk
    rw [if_pos h2]
    refine ⟨own_ext (h.two h2) hx, ?_⟩
    show RL wB _ vr b.rows
    rw [h.nilr (by omega), hr]
    exact RL.nil _ _
  · refine ⟨wr.heap.size, Nat.le_refl _, by omega, ?_⟩
    unfold LastOk
    rw [if_neg (by omega), if_pos h3]
    obtain ⟨u, r, hr, ho, hu⟩ := h.three h3
    refine ⟨?_, [u], ?_, fun i q hq => ?_⟩
    · show SL wB _ vw b.words
      rw [h.nilw (by omega) (by omega), hw]
      exact SL.nil _ _
    · show World.ownsRow wB _ _ 1 vr b.rows.length [u]
      rw [hr]
      exact own_ext ho hx
    · have hq : b.rows[i]? = some q := hq
      rw [hr] at hq
      cases i with
      | zero =>
        simp at hq
        subst hq
        exact ⟨u, rfl, (hu.ext hx).mono hx.size⟩
      | succ i => simp at hq
  · refine ⟨wB.heap.size, by omega, Nat.le_refl _, ?_⟩
    unfold LastOk
    rw [if_neg (by omega), if_neg (by omega)]
    constructor
    · show SL wB _ vw b.words
      rw [h.nilw (by omega) (by omega), hw]
      exact SL.nil _ _
    · show RL wB _ vr b.rows
      rw [h.nilr (by omega), hr]
      exact RL.nil _ _
/-- a block of another type is none that a row of blocks owns -/
theorem own_far {w : World} {B g n : Nat} {e T : TypeId} {size : Nat} {v : Value} {xs : List Value} {cs : Array Value} {fz : Nat × Nat} (h : w.ownsRow B e size v n xs) (hg : w.heap[g]? = some (.cells cs T fz)) (hT : T ≠ e) : some g ≠ v.ownBlock := by
  intro e3
  obtain ⟨-, cs2, h2⟩ := own_at h e3.symm
  rw [hg] at h2
  simp only [Option.some.injEq, Obj.cells.injEq] at h2
  exact hT h2.2.1
theorem addr_add (g j : Nat) : (⟨g, 0, none⟩ : Addr).add j = ⟨g, j, none⟩ := by unfold Addr.add; split <;> simp_all
theorem grown_heap {w w' : World} {row : Option Nat} {g : Nat} {o : Obj} (hg : w.grownBy w' row) (h : w.heap[g]? = some o) (hne : some g ≠ row) : w'.heap[g]? = some o := by
  rw [hg.block g (heap_lt h) hne]
  exact h
theorem ext_heap {w w' : World} {g : Nat} {o : Obj} (hx : Ext w w') (h : w.heap[g]? = some o) : w'.heap[g]? = some o := by
  rw [hx.block g (heap_lt h)]
  exact h
set_option maxRecDepth 100000 in
set_option maxHeartbeats 12800000 in
theorem rdoc_any (s : ByteArray) (w : World) (hs : s.size ≤ 100000) :
    Calls Tryd.prog 11 #[.string s] w fun e w' => ∃ v, e = .returned (.tuple #[v, .int .i64 ((parseA s.data.toList).2.1 : Nat), .int .i64 ((parseA s.data.toList).2.2 : Nat)]) ∧ DL w' v (parseA s.data.toList).1 ∧ Ext w w' := by
  have hsl : s.data.toList.length = s.size := by simp
  by_cases hbig : 20000 < s.size
  · have hr : parseA s.data.toList = ([], 0, 6) := by unfold parseA; exact if_pos (by omega)
    rw [hr]
    have hd : decide ((20000 : Int) < (s.size : Int)) = true := decide_eq_true (by omega)
    clear hr hsl hbig
    go_enter Tryd.func11, Tryd.ntmps11
    go_wp2_with fail
    exact bodyPost_ret (v := .tuple #[.slice none 0 0, .int .i64 0, .int .i64 6]) (by simp [results, Tryd.results11, go_sem]) rfl ⟨_, rfl, DL.nil _, Ext.refl _⟩
  · have hd : decide ((20000 : Int) < (s.size : Int)) = false := decide_eq_false (by omega)
    obtain ⟨R, hR⟩ : ∃ R, R = parseA s.data.toList := ⟨_, rfl⟩
    rw [← hR]
    have hpa : parseA s.data.toList = (match errA (linesA s.data.toList) 1 with | some (k, e) => ([], k, e) | none => (outA (linesA s.data.toList) [] 0, 0, 0)) := by
      unfold parseA
      rw [if_neg (by omega), goA_eq]
      rfl
    rw [hpa] at hR
    obtain ⟨w0, hw0⟩ : ∃ W, W = w.alloc (.cells #[] 39) := ⟨_, rfl⟩
    have hx0 : Ext w w0 := by rw [hw0]; exact (Ext.refl w).alloc _
    have hO0 : w0.ownsRow w.heap.size 39 5 (.slice (some ⟨w.heap.size, 0, none⟩) 0 0) 0 (mcells []) := by
      rw [hw0]
      exact ⟨rfl, .inr ⟨w.heap.size, 0, #[], rfl, Nat.le_refl _, heap_alloc_new w _, Nat.le_refl _, Nat.zero_le _, rfl, rfl⟩⟩
    have hL := rlines_any s w0 (by omega)
    have hsum := cutAt_sum 10 s.data.toList []
    rw [List.length_nil, Nat.zero_add] at hsum
    have hll : cutAt 10 [] s.data.toList = linesA s.data.toList := rfl
    have hlne : linesA s.data.toList ≠ [] := cutAt_ne 10 _ _
    rw [hll] at hsum
    generalize linesA s.data.toList = ls at *
    have HR2 := Lib.hid hR
    have hlen : ls.length ≤ 20001 := by have := len_lenS ls; omega
    have hmem : ∀ x ∈ ls, x.length ≤ 20001 := fun x hx => by have := sum_mem ls x hx; omega
    have HM := Lib.hid hmem
    obtain ⟨N, hN⟩ : ∃ N, N = ls.length := ⟨_, rfl⟩
    have HN := Lib.hid hN
    have hN1 : 1 ≤ N := by have := List.length_pos_iff.2 hlne; omega
    rw [← hN] at hL hlen
    have HL := Lib.hid hL
    have HX0 := Lib.hid hx0
    obtain ⟨B, hB⟩ : ∃ B, B = w.heap.size := ⟨_, rfl⟩
    have hwB : w.heap.size ≤ B := Nat.le_of_eq hB.symm
    rw [← hB] at hO0
    have HO0 := Lib.hid hO0
    have HSUM : Hid (lenS ls ≤ 20001) := by show _ ≤ _; omega
    clear hR hpa hL hsum hll hlne hmem hx0 hO0 hsl hbig hN
    go_enter Tryd.func11, Tryd.ntmps11
    go_wp2_with fail
    rw [← hw0, ← hB]
    clear hw0 hB
    refine HL.out.mono ?_
    rintro e w1 ⟨v, rfl, hown, hx1⟩
    obtain ⟨g0, c0, rfl, k1, k2, k3, k4, k5, ⟨cs0, k6⟩, -⟩ := own_put hown (by omega)
    unfold maxLen at k2
    have HC : Hid (∀ W : World, W.heap[g0]? = some (.cells cs0 9 (0, 0)) → ∀ (k : Nat) (hk : k < ls.length), W.cell? ⟨g0, k, none⟩ = some (.string (BA ls[k]))) := fun W hW k hk => by
      have := k4 k (.string (BA ls[k])) (strsV_get ls k _ (List.getElem?_eq_getElem hk))
      unfold World.cell? at this ⊢
      rw [hW]
      rw [k6] at this
      exact this
    have HT0 : Hid (w1.heap[g0]? = some (.cells cs0 9 (0, 0))) := k6
    obtain ⟨B1, hB1⟩ : ∃ x, x = w1.heap.size := ⟨_, rfl⟩
    have hg0 : g0 < B1 := by rw [hB1]; exact heap_lt k6
    have HO1 : Hid (OutI w1 B B1 (.slice (some ⟨B, 0, none⟩) 0 0) [] 0) := ⟨[], rfl, own_ext HO0.out hx1, fun x hx => (by cases hx), fun x hx => (by cases hx)⟩
    have HX1 := Lib.hid (HX0.out.trans hx1)
    have HB1 : Hid (B1 ≤ w1.heap.size) := Nat.le_of_eq hB1
    have HBB1 : Hid (B ≤ B1) := by
      show _ ≤ _
      have h1 := (own_ext HO0.out hx1).lt B rfl
      omega
    clear hown hx1 k3 k4 k5 k6 hB1 HO0 HL HX0
    go_wp2_with fail
    go_loopw [5, 6, 7, 8, 9, 10, 11, 19] (fun o op _ _ _ _ _ ix W => ∃ (k m : Nat), ix = .int .i64 (k : Int) ∧ k ≤ N ∧ (∀ s ∈ ls.take k, (lineA s).2 = 0) ∧ op = .int .i64 ((opA (ls.take k) 0 : Nat) : Int) ∧ OutI W B m o (outA (ls.take k) [] 0) (opA (ls.take k) 0) ∧ B1 ≤ m ∧ m ≤ W.heap.size ∧ W.heap[g0]? = some (.cells cs0 9 (0, 0)) ∧ Ext w W) (fun _ _ _ _ _ _ _ i _ => N - (intOf i).toNat)
    case atStart => exact ⟨0, B1, rfl, Nat.zero_le _, (fun x hx => (by cases hx)), rfl, HO1.out, Nat.le_refl _, HB1.out, HT0.out, HX1.out⟩
    case round =>
      obtain ⟨k, m, rfl, hk, hall, rfl, hO, hBm, hmW, hg, hx⟩ := hrel
      by_cases hkN : k < N
      · have hkl : k < ls.length := by rw [← HN.out]; exact hkN
        have hc := HC.out wr hg k hkl
        have hcl := rparse_any (BA ls[k]) wr (by rw [BA_size]; have := HM.out ls[k] (List.getElem_mem hkl); omega)
        rw [BA_data] at hcl
        have hsn := outA_snoc ls k hkl
        have hwt : wtL (outA (ls.take k) [] 0) + wtB (lineA ls[k]).1 ≤ 1000000 := by
          have h1 := outA_wt (ls.take k) [] 0
          have h2 := sum_take ls k
          have h3 := lineA_wt ls[k]
          have h4 := HM.out ls[k] (List.getElem_mem hkl)
          have h5 := HSUM.out
          have h6 : wtL ([] : List DB) = 0 := rfl
          have h7 : ls[k].length = List.length ls[k] := rfl
          omega
        have hgood := lineA_good ls[k]
        have hbad : (lineA ls[k]).2 ≠ 0 → R = ([], k + 1, (lineA ls[k]).2) := fun h => by
          rw [HR2.out, errA_at ls k hkl hall h]
        have hnext : (lineA ls[k]).2 = 0 → ∀ s ∈ ls.take (k + 1), (lineA s).2 = 0 := fun h x hx => by
          rw [List.take_succ_eq_append_getElem hkl] at hx
          rcases List.mem_append.1 hx with hx | hx
          · exact hall x hx
          · rw [List.mem_singleton.1 hx]; exact h
        have hne := opA_ne (ls.take k) [] 0 (fun h => by omega)
        generalize ls[k] = x at *
        generalize lineA x = Q at *
        obtain ⟨op, hop⟩ : ∃ op, op = opA (ls.take k) 0 := ⟨_, rfl⟩
        obtain ⟨out, hout⟩ : ∃ out, out = outA (ls.take k) [] 0 := ⟨_, rfl⟩
        rw [← hop, ← hout] at hO hsn hne
        rw [← hout] at hwt
        rw [← hop]
        obtain ⟨ms, g1, g2, g3⟩ := hO.close
        obtain ⟨A, c, rfl, hrm, hmx⟩ := own_slice g2
        have hml : ms.length ≤ 1000000 := by
          have h1 := wt_out out
          rw [← g1, List.length_map] at h1
          rw [← g1] at hwt
          omega
        obtain ⟨n, hn⟩ : ∃ n, n = ms.length := ⟨_, rfl⟩
        rw [← hn] at g2 hO hrm hml ⊢
        have HNM := Lib.hid hn
        have HCL := Lib.hid hcl
        have HSN := Lib.hid hsn
        have HBAD := Lib.hid hbad
        have HNEXT := Lib.hid hnext
        have HNE := Lib.hid hne
        have HGOOD := Lib.hid hgood
        have HO := Lib.hid hO
        have HG := Lib.hid hg
        have HX := Lib.hid hx
        have HWT := Lib.hid hwt
        have HG1 := Lib.hid g1
        have HG2 := Lib.hid g2
        have HG3 := Lib.hid g3
        clear hcl hsn hbad hnext hne hgood hO hg hx hwt hall hkl g1 g2 g3 hn hop hout
        go_wp2_with fail
        refine HCL.out.mono ?_
        rintro e w2 ⟨kk, vw, vr, r, wd, rfl, hx2, ⟨A1, n1, c1, rfl⟩, ⟨A2, n2, c2, rfl⟩, hok⟩
        obtain ⟨er, her⟩ : ∃ er, er = Q.2 := ⟨_, rfl⟩
        rw [← her] at hok ⊢
        obtain ⟨wA, hwA⟩ : ∃ W, W = w2.alloc (.cells #[.int .i64 (kk : Int), .slice A1 n1 c1, .slice A2 n2 c2, .string r, .int .i64 (wd : Int), .int .i64 (er : Int)] 48) := ⟨_, rfl⟩
        have hxA : Ext w2 wA := by rw [hwA]; exact (Ext.refl w2).alloc _
        have hbA : Blk wA w2.heap.size 48 [.int .i64 (kk : Int), .slice A1 n1 c1, .slice A2 n2 c2, .string r, .int .i64 (wd : Int), .int .i64 (er : Int)] := by rw [hwA]; exact heap_alloc_new w2 _
        obtain ⟨⟨p0, p1, p2, p3, p4, p5⟩, hfz, hlt⟩ := six hbA
        have HWA := Lib.hid hwA
        have HX2 := Lib.hid hx2
        have HXA := Lib.hid hxA
        clear hwA hbA hfz hxA hx2
        by_cases herr : er = 0
        · have hez : (((er : Nat) : Int) != 0) = false := by rw [herr]; rfl
          obtain ⟨e1, e2, e3, hline⟩ := hok herr
          have HNX0 := Lib.hid (HNEXT.out (her.symm.trans herr))
          obtain ⟨wB, hwB'⟩ : ∃ W, W = wA.alloc (.cells #[.int .i64 (kk : Int), .slice A1 n1 c1, .slice A2 n2 c2, .string r, .int .i64 (wd : Int)] 39) := ⟨_, rfl⟩
          have hxB : Ext wA wB := by rw [hwB']; exact (Ext.refl wA).alloc _
          have HBB : Hid (Blk wB wA.heap.size 39 [.int .i64 (kk : Int), .slice A1 n1 c1, .slice A2 n2 c2, .string r, .int .i64 (wd : Int)]) := by rw [hwB']; exact heap_alloc_new wA _
          have hsB : wA.heap.size < wB.heap.size := by rw [hwB']; simp
          have HXB := Lib.hid (HXA.out.trans hxB)
          have HXR := Lib.hid (HX2.out.trans HXB.out)
          have hsr := HX2.out.size
          have hsa := HXA.out.size
          have hsR := HXR.out.size
          have hsW := HX.out.size
          obtain ⟨⟨q0, q1, q2, q3, q4⟩, hfz, hlt2⟩ := five HBB.out
          have HWB := Lib.hid hwB'
          have HE1 := Lib.hid e1
          have HCE : Hid (MB.cells ⟨Q.1, .slice A1 n1 c1, .slice A2 n2 c2⟩ = [.int .i64 (kk : Int), .slice A1 n1 c1, .slice A2 n2 c2, .string r, .int .i64 (wd : Int)]) := by
            show _ = _
            rw [e1, e2, e3]; rfl
          have HLI := Lib.hid hline
          have hgd := HGOOD.out
          rw [show Q.1.kind = kk from e1.symm] at HSN
          clear hok e1 e2 e3 hline herr hfz hwB' hxB her HNEXT HBAD HCL
          by_cases ck0 : kk = 0
          · -- a blank line
            have hb0 : Q.1 = noB := by
              rcases hgd with ⟨-, e⟩ | ⟨h, -⟩ | ⟨h, -⟩ | ⟨h, -⟩ | ⟨h, -⟩
              · exact e
              all_goals (exfalso; have := HE1.out; omega)
            have hadd : addA out op Q.1 = out := by rw [hb0]; exact addA_noB _ _
            have hO2 := (HO.out.ext HXR.out).close
            obtain ⟨ms2, f1, f2, f3⟩ := hO2
            have hO3 := OutI.of_closed (op := 0) f2 f3 (by omega)
            rw [f1] at hO3
            have hsn := HSN.out
            rw [hadd] at hsn
            have HS2 := Lib.hid hsn
            have HO3 := Lib.hid hO3
            have hk0 : (((kk : Nat) : Int) == 0) = true := by rw [ck0]; rfl
            have HK0 := Lib.hid ck0
            clear hb0 hadd f1 f2 f3 hO3 hsn hgd ck0
            go_wp2_with (first | rw [← HWA.out] | rw [← HWB.out])
            go_roundw
            case rel => exact ⟨k + 1, wB.heap.size, by go_num, by omega, HNX0.out, by rw [HS2.out.2], by rw [HS2.out.1, HS2.out.2, HK0.out]; exact HO3.out, by omega, Nat.le_refl _, ext_heap HXR.out HG.out, HX.out.trans HXR.out⟩
            case measure => simp [intOf]; omega
          · have hk0 : (((kk : Nat) : Int) == 0) = false := by simp; omega
            have hkne : Q.1.kind ≠ 0 := by rw [← HE1.out]; exact ck0
            by_cases cm : kk = op ∧ (op = 2 ∨ op = 3)
            · rcases cm.2 with c2' | c3'
              · have hop2 : op = 2 := c2'
                have hk2 : kk = 2 := by rw [cm.1]; exact hop2
                have hbk : Q.1.kind = 2 := by rw [← HE1.out]; exact hk2
                have hout : out ≠ [] := HNE.out cm.2
                obtain ⟨ms', f1, f2, f3, f4⟩ := HO.out
                have hnm : n = ms'.length := by
                  obtain ⟨A', c', e, -, -⟩ := own_slice f2
                  injection e
                rcases List.eq_nil_or_concat ms' with rfl | ⟨init, x, rfl⟩
                · exact absurd f1.symm hout
                rw [List.concat_eq_append] at f1 f2 f3 f4 hnm
                have hxd : Ext wr wB.drew := HXR.out.drew
                have f4 := (f4 x (by simp)).ext hxd
                have hcl : ∀ y ∈ init, MOk wB.drew m y := fun y hy => (f3 y (by rw [List.dropLast_concat]; exact hy)).ext hxd
                have hOwn := own_ext f2 HXR.out
                have hOwd := own_ext f2 hxd
                have hgbl : ∀ g, (Value.slice A n c).ownBlock = some g → g < wr.heap.size := fun g e => by
                  obtain ⟨-, cs, h2⟩ := own_at f2 e
                  exact heap_lt h2
                rw [hop2] at f4
                have hlast := f4
                unfold LastOk at hlast
                rw [if_pos rfl] at hlast
                have hwo := hlast.1
                have hrows : Q.1.rows = [] ∧ Q.1.words ≠ [] := by
                  rcases hgd with ⟨h, -⟩ | ⟨h, -⟩ | ⟨-, h1, h2, -⟩ | ⟨h, -⟩ | ⟨h, -⟩
                  · omega
                  · omega
                  · exact ⟨h2, h1⟩
                  · omega
                  · omega
                obtain ⟨hbr, hbw⟩ := hrows
                have hadd : addA out op Q.1 = init.map MB.b ++ [mergeA x.b Q.1] := by
                  unfold addA
                  rw [if_neg hkne, if_pos ⟨by rw [← HE1.out]; exact cm.1, cm.2⟩, ← f1, List.map_append]
                  simp
                have hwt : x.b.words.length + Q.1.words.length ≤ 1000000 ∧ init.length ≤ 1000000 := by
                  have h0 := HWT.out
                  have h1 := wt_out out
                  have h2 : wtB x.b ≤ wtL out := wt_mem (by rw [← f1]; simp)
                  have h3 := wt_words x.b
                  have h4 := wt_words Q.1
                  rw [← f1, List.length_map, List.length_append] at h1
                  rw [← f1] at h0 h2
                  omega
                obtain ⟨hwt1, hwt2⟩ := hwt
                have hline := own_ext (HLI.out.two hbk) HXB.out
                obtain ⟨gw, cw, ew, kw1, kw2, -, kw4, -, -, -⟩ := own_put hline (List.length_pos_iff.2 hbw)
                have hbl := List.length_pos_iff.2 hbw
                injection ew with ew1 ew2 ew3
                subst ew1 ew3
                rw [← ew2] at kw1 hbl hwt1
                have HNB := Lib.hid ew2
                have hll : (init ++ [x]).length = init.length + 1 := by simp
                rw [hll] at hOwn hOwd hnm
                obtain ⟨gb, cb, eb, kb1, kb2, -, kb4, kb5, -, -⟩ := own_put hOwn (by omega)
                have eb0 := eb
                injection eb with eb1 eb2 eb3
                subst eb1 eb3
                obtain ⟨Ax, cx, ex, kx1, kx2⟩ := own_slice hwo
                have hd1 := kb4 (init.length * 5 + 1) x.vw (mcells_get (init ++ [x]) init.length 1 x _ (by simp) rfl)
                rw [ex] at hd1 hwo
                obtain ⟨i0, hi, hz0, hz1, hz2⟩ := info_parts strInfoD
                have hmW1 : m ≤ wB.drew.heap.size := Nat.le_trans hmW hxd.size
                obtain ⟨nx, hnx⟩ : ∃ j, j = x.b.words.length := ⟨_, rfl⟩
                obtain ⟨k0, hkk⟩ : ∃ j, j = init.length := ⟨_, rfl⟩
                have HNX := Lib.hid hnx
                have HKK := Lib.hid hkk
                have hl4 : x.b.words.length = nx := hnx.symm
                rw [← hnx] at hwo hwt1 kx1
                rw [hl4] at hd1
                rw [← hkk] at hOwn hOwd hwt2 kb1 hd1 hnm
                subst hnm
                have HOW := Lib.hid hwo
                have HOB := Lib.hid hOwd
                have HOBk : Hid (wB.drew.ownsRow B 39 5 (.slice (some ⟨gb, 0, none⟩) (init.length + 1) c) (init.length + 1) (mcells (init ++ [x]))) := by
                  have := HOB.out
                  rw [HKK.out] at this
                  exact this
                have HCL := Lib.hid hcl
                have HLA := Lib.hid f4
                have HEX := Lib.hid ex
                have hBm2 : B ≤ m := Nat.le_trans HBB1.out hBm
                have HBm := Lib.hid hBm2
                unfold maxLen at kb2 kw2
                have hfb := kb5 (k0 * 5 + 1)
                have HBr := Lib.hid hbr
                have HLen : Hid ((strsV Q.1.words).length = n1 * 1) := by show _ = _; rw [strsV_len, HNB.out, Nat.mul_one]
                have HOne : Hid (∀ u ∈ strsV Q.1.words, u.oneCell' = true) := by
                  intro u hu
                  unfold strsV at hu
                  obtain ⟨y, -, rfl⟩ := List.mem_map.1 hu
                  rfl
                have HNEWd : Hid (∀ j u', (strsV Q.1.words)[j]? = some u' → wB.drew.cell? ((⟨gw, 0, none⟩ : Addr).add j) = some u') := by
                  intro j u' hj
                  rw [addr_add]
                  exact kw4 j u' hj
                have HBase := Lib.hid hmW1
                have HCell : Hid ((mcells (init ++ [x]))[k0 * 5 + 1]? = some (.slice Ax nx cx)) := by
                  show _ = _
                  rw [HKK.out, mcells_get (init ++ [x]) init.length 1 x x.vw (by simp) rfl, HEX.out, HNX.out]
                have HBd : Hid (Blk wB.drew wA.heap.size 39 [.int .i64 (kk : Int), .slice _ _ _, .slice _ _ _, .string r, .int .i64 (wd : Int)]) := HBB.out
                have HGd := Lib.hid (ext_heap hxd HG.out)
                have HXd := Lib.hid (HX.out.trans hxd)
                have hgbl2 : gb < wr.heap.size := hgbl gb rfl
                have hnb : wA.heap.size ≠ gb := by omega
                have hng : g0 ≠ gb := fun e => own_far HOB.out HGd.out (by decide) (by rw [e]; rfl)
                have hBgb : B ≤ gb := (own_at HOB.out rfl).1
                have hb1 : (((kk : Nat) : Int) == ((op : Nat) : Int)) = true := by rw [cm.1]; simp
                have hb2 : (((kk : Nat) : Int) == 2) = true := by rw [hk2]; rfl
                have hli : ((k0 : Nat) : Int) < (k0 : Int) + 1 := by omega
                have HK2 := Lib.hid hk2
                have HS2 : Hid (outA (ls.take (k + 1)) [] 0 = init.map MB.b ++ [mergeA x.b Q.1] ∧ opA (ls.take (k + 1)) 0 = kk) := ⟨HSN.out.1.trans hadd, HSN.out.2⟩
                clear hwo hOwn hOwd hcl f1 f2 f3 f4 hadd kw4 kb4 kb5 hkk hnx hline hl4 hll ex eb0 hbw hbr hk2 hop2 hbk hout hgd hkne cm ck0 hlast hxd hgbl hmW1 ew2 eb2
                go_wp2_with (first | rw [← HWA.out] | rw [← HWB.out])
                go_region_law ((refine step_append_lies _ (by rfl) _ _ _ (by rfl) m 9 i0 _ 1 16 Tryd.underlying30 hi hz0 hz1 hz2 rfl (by omega) (.slice Ax nx cx) nx (strsV x.b.words) (by rfl) HOW.out ⟨gw, 0, none⟩ n1 c1 (strsV Q.1.words) (by rfl) HLen.out HNEWd.out HOne.out hbl (by unfold maxLen; omega) (by omega) HBase.out _ rfl ?_; intro gg cap2 w3 hown1 hgrow hat hlt2; obtain ⟨hfc, hff⟩ := grown_far HOB.out (Nat.succ_pos _) HOW.out (by decide) hgrow; have e1 := hfc _ _ HCell.out; have e2 := hff (k0 * 5 + 1)))
                all_goals (
                  have hp3 := HBd.out.grown HOW.out (by decide) hgrow
                  have hg3 := grown_heap hgrow HGd.out (fun e => by have h1 := (HOW.out.lt g0 e.symm).1; omega)
                  have hOut := out_words (b := Q.1) (vw' := .slice (some ⟨gg, 0, none⟩) (nx + n1) cap2) (x := x) (init := init) HOBk.out HCL.out HLA.out HBase.out HBr.out (by rw [HEX.out, HNX.out.symm]; exact hgrow) (by rw [← HNX.out, ← HNB.out]; exact hown1)
                  have hx3 := Ext.grown HXd.out hgrow (fun j hj => by have h1 := (HOW.out.lt j hj).1; have h2 := HBm.out; omega)
                  have hsz3 : m ≤ w3.heap.size := Nat.le_trans HBase.out hgrow.size
                  rw [← HKK.out] at hOut
                  have hp4 := blk_ne (j := k0 * 5 + 1) (v := .slice (some ⟨gg, 0, none⟩) (nx + n1) cap2) hp3 hnb
                  have hg4 : (w3.setCell ⟨gb, k0 * 5 + 1, none⟩ (.slice (some ⟨gg, 0, none⟩) (nx + n1) cap2)).heap[g0]? = some (.cells cs0 9 (0, 0)) := by rw [Below.heap_setCell _ _ _ _ hng]; exact hg3
                  have hx4 := hx3.set (p := ⟨gb, k0 * 5 + 1, none⟩) (Nat.le_trans hwB hBgb) (.slice (some ⟨gg, 0, none⟩) (nx + n1) cap2)
                  have hsz4 : m ≤ (w3.setCell ⟨gb, k0 * 5 + 1, none⟩ (.slice (some ⟨gg, 0, none⟩) (nx + n1) cap2)).heap.size := by simp [World.setCell]; exact hsz3
                  obtain ⟨w4, hw4⟩ : ∃ w4, w4 = w3.setCell ⟨gb, k0 * 5 + 1, none⟩ (.slice (some ⟨gg, 0, none⟩) (nx + n1) cap2) := ⟨_, rfl⟩
                  rw [← hw4] at hp4 hg4 hx4 hsz4 hOut ⊢
                  have z0 := hp4.cell (i := 0) rfl
                  have O1 := Lib.hid hOut
                  have O2 := Lib.hid hx4
                  have O3 := Lib.hid hg4
                  clear hp4 hg4 hx4 hOut hw4 hp3 hg3 hx3 hown1 hgrow hat e1 e2 hfc hff q0 q1 q2 q3 q4 p0 p1 p2 p3 p4 p5 hd1 hfb
                  go_wp2_with fail
                  go_roundw
                  case rel => exact ⟨k + 1, m, by go_num, by omega, HNX0.out, by first | rw [HS2.out.2] | (rw [HS2.out.2, HK2.out]; rfl), by rw [HS2.out.1, HS2.out.2, HK2.out]; exact O1.out, by omega, by omega, O3.out, O2.out⟩
                  case measure => simp [intOf]; omega)
              · have hop2 : op = 3 := c3'
                have hk2 : kk = 3 := by rw [cm.1]; exact hop2
                have hbk : Q.1.kind = 3 := by rw [← HE1.out]; exact hk2
                have hout : out ≠ [] := HNE.out cm.2
                obtain ⟨ms', f1, f2, f3, f4⟩ := HO.out
                have hnm : n = ms'.length := by
                  obtain ⟨A', c', e, -, -⟩ := own_slice f2
                  injection e
                rcases List.eq_nil_or_concat ms' with rfl | ⟨init, x, rfl⟩
                · exact absurd f1.symm hout
                rw [List.concat_eq_append] at f1 f2 f3 f4 hnm
                have hxd : Ext wr wB.drew := HXR.out.drew
                have f4 := (f4 x (by simp)).ext hxd
                have hcl : ∀ y ∈ init, MOk wB.drew m y := fun y hy => (f3 y (by rw [List.dropLast_concat]; exact hy)).ext hxd
                have hOwn := own_ext f2 HXR.out
                have hOwd := own_ext f2 hxd
                have hgbl : ∀ g, (Value.slice A n c).ownBlock = some g → g < wr.heap.size := fun g e => by
                  obtain ⟨-, cs, h2⟩ := own_at f2 e
                  exact heap_lt h2
                rw [hop2] at f4
                have hlast := f4
                unfold LastOk at hlast
                rw [if_neg (by decide), if_pos rfl] at hlast
                obtain ⟨hsw, vs, hwo, hvs⟩ := hlast
                have hbw : Q.1.words = [] := by
                  rcases hgd with ⟨h, -⟩ | ⟨h, -⟩ | ⟨h, -⟩ | ⟨-, h1, -⟩ | ⟨h, -⟩
                  · omega
                  · omega
                  · omega
                  · exact h1
                  · omega
                obtain ⟨u, rr, hbr, hline0, hu0⟩ := HLI.out.three hbk
                have hadd : addA out op Q.1 = init.map MB.b ++ [mergeA x.b Q.1] := by
                  unfold addA
                  rw [if_neg hkne, if_pos ⟨by rw [← HE1.out]; exact cm.1, cm.2⟩, ← f1, List.map_append]
                  simp
                have hwt : x.b.rows.length ≤ 1000000 ∧ init.length ≤ 1000000 := by
                  have h0 := HWT.out
                  have h1 := wt_out out
                  have h2 : wtB x.b ≤ wtL out := wt_mem (by rw [← f1]; simp)
                  have h3 := wt_rows x.b
                  rw [← f1, List.length_map, List.length_append] at h1
                  rw [← f1] at h0 h2
                  omega
                obtain ⟨hwt1, hwt2⟩ := hwt
                have hline := own_ext hline0 HXB.out
                obtain ⟨gw, cw, ew, kw1, kw2, -, kw4, -, -, -⟩ := own_put hline (by omega)
                injection ew with ew1 ew2 ew3
                subst ew1 ew3
                rw [← ew2] at kw1
                have hbl : 0 < n2 := by omega
                have hn2b : n2 ≤ 1 := by omega
                have HNB := Lib.hid ew2
                have hll : (init ++ [x]).length = init.length + 1 := by simp
                rw [hll] at hOwn hOwd hnm
                obtain ⟨gb, cb, eb, kb1, kb2, -, kb4, kb5, -, -⟩ := own_put hOwn (by omega)
                have eb0 := eb
                injection eb with eb1 eb2 eb3
                subst eb1 eb3
                obtain ⟨Ax, cx, ex, kx1, kx2⟩ := own_slice hwo
                have hd1 := kb4 (init.length * 5 + 2) x.vr (mcells_get (init ++ [x]) init.length 2 x _ (by simp) rfl)
                rw [ex] at hd1 hwo
                obtain ⟨i0, hi, hz0, hz1, hz2⟩ := info_parts rowsInfo
                have hmW1 : m ≤ wB.drew.heap.size := Nat.le_trans hmW hxd.size
                obtain ⟨nx, hnx⟩ : ∃ j, j = x.b.rows.length := ⟨_, rfl⟩
                obtain ⟨k0, hkk⟩ : ∃ j, j = init.length := ⟨_, rfl⟩
                have HNX := Lib.hid hnx
                have HKK := Lib.hid hkk
                have hl4 : x.b.rows.length = nx := hnx.symm
                rw [← hnx] at hwo hwt1 kx1
                rw [hl4] at hd1
                rw [← hkk] at hOwn hOwd hwt2 kb1 hd1 hnm
                subst hnm
                have HOW := Lib.hid hwo
                have HOB := Lib.hid hOwd
                have HOBk : Hid (wB.drew.ownsRow B 39 5 (.slice (some ⟨gb, 0, none⟩) (init.length + 1) c) (init.length + 1) (mcells (init ++ [x]))) := by
                  have := HOB.out
                  rw [HKK.out] at this
                  exact this
                have HCL := Lib.hid hcl
                have HLA := Lib.hid f4
                have HEX := Lib.hid ex
                have hBm2 : B ≤ m := Nat.le_trans HBB1.out hBm
                have HBm := Lib.hid hBm2
                unfold maxLen at kb2 kw2
                have hfb := kb5 (k0 * 5 + 2)
                have HBr := Lib.hid hbr
                have HLen : Hid ([u].length = n2 * 1) := by show _ = _; rw [HNB.out]; rfl
                have HOne : Hid (∀ u' ∈ [u], u'.oneCell' = true) := by
                  intro u' hu
                  obtain ⟨Au, cu, hu1, -⟩ := hu0
                  rw [List.mem_singleton.1 hu, hu1]
                  rfl
                have HU : Hid (SL wB.drew wB.drew.heap.size u rr) := (hu0.ext HXB.out.drew).mono HXB.out.drew.size
                have HBw := Lib.hid hbw
                have HSW := Lib.hid hsw
                have HVS := Lib.hid hvs
                have HNEWd : Hid (∀ j u', ([u])[j]? = some u' → wB.drew.cell? ((⟨gw, 0, none⟩ : Addr).add j) = some u') := by
                  intro j u' hj
                  rw [addr_add]
                  exact kw4 j u' hj
                have HBase := Lib.hid hmW1
                have HCell : Hid ((mcells (init ++ [x]))[k0 * 5 + 2]? = some (.slice Ax nx cx)) := by
                  show _ = _
                  rw [HKK.out, mcells_get (init ++ [x]) init.length 2 x x.vr (by simp) rfl, HEX.out, HNX.out]
                have HBd : Hid (Blk wB.drew wA.heap.size 39 [.int .i64 (kk : Int), .slice _ _ _, .slice _ _ _, .string r, .int .i64 (wd : Int)]) := HBB.out
                have HGd := Lib.hid (ext_heap hxd HG.out)
                have HXd := Lib.hid (HX.out.trans hxd)
                have hgbl2 : gb < wr.heap.size := hgbl gb rfl
                have hnb : wA.heap.size ≠ gb := by omega
                have hng : g0 ≠ gb := fun e => own_far HOB.out HGd.out (by decide) (by rw [e]; rfl)
                have hBgb : B ≤ gb := (own_at HOB.out rfl).1
                have hb1 : (((kk : Nat) : Int) == ((op : Nat) : Int)) = true := by rw [cm.1]; simp
                have hb2 : (((kk : Nat) : Int) == 2) = false := by rw [hk2]; rfl
                have hb3 : (((kk : Nat) : Int) == 3) = true := by rw [hk2]; rfl
                have hli : ((k0 : Nat) : Int) < (k0 : Int) + 1 := by omega
                have HK2 := Lib.hid hk2
                have HS2 : Hid (outA (ls.take (k + 1)) [] 0 = init.map MB.b ++ [mergeA x.b Q.1] ∧ opA (ls.take (k + 1)) 0 = kk) := ⟨HSN.out.1.trans hadd, HSN.out.2⟩
                clear hwo hOwn hOwd hcl f1 f2 f3 f4 hadd kw4 kb4 kb5 hkk hnx hline hl4 hll ex eb0 hbw hbr hk2 hop2 hbk hout hgd hkne cm ck0 hxd hgbl hmW1 ew2 eb2 hline0 hu0 hsw hvs
                go_wp2_with (first | rw [← HWA.out] | rw [← HWB.out])
                go_region_law ((refine step_append_lies _ (by rfl) _ _ _ (by rfl) m 30 i0 _ 1 24 Tryd.underlying37 hi hz0 hz1 hz2 rfl (by omega) (.slice Ax nx cx) nx vs (by rfl) HOW.out ⟨gw, 0, none⟩ n2 c2 ([u]) (by rfl) HLen.out HNEWd.out HOne.out hbl (by unfold maxLen; omega) (by omega) HBase.out _ rfl ?_; intro gg cap2 w3 hown1 hgrow hat hlt2; obtain ⟨hfc, hff⟩ := grown_far HOB.out (Nat.succ_pos _) HOW.out (by decide) hgrow; have e1 := hfc _ _ HCell.out; have e2 := hff (k0 * 5 + 2)))
                all_goals (
                  have hp3 := HBd.out.grown HOW.out (by decide) hgrow
                  have hg3 := grown_heap hgrow HGd.out (fun e => by have h1 := (HOW.out.lt g0 e.symm).1; omega)
                  have hOut := out_rows (b := Q.1) (vr' := .slice (some ⟨gg, 0, none⟩) (nx + n2) cap2) (x := x) (init := init) (vs := vs) HOBk.out HCL.out HSW.out (by rw [HEX.out, ← HNX.out]; exact HOW.out) HVS.out HBase.out HBw.out HBr.out HU.out (by rw [HEX.out, ← HNX.out]; exact hgrow) (by rw [← HNX.out]; have h1 := hown1; rw [HNB.out] at h1; rw [HNB.out]; exact h1)
                  have hx3 := Ext.grown HXd.out hgrow (fun j hj => by have h1 := (HOW.out.lt j hj).1; have h2 := HBm.out; omega)
                  have hsz3 : m ≤ w3.heap.size := Nat.le_trans HBase.out hgrow.size
                  rw [← HKK.out] at hOut
                  have hp4 := blk_ne (j := k0 * 5 + 2) (v := .slice (some ⟨gg, 0, none⟩) (nx + n2) cap2) hp3 hnb
                  have hg4 : (w3.setCell ⟨gb, k0 * 5 + 2, none⟩ (.slice (some ⟨gg, 0, none⟩) (nx + n2) cap2)).heap[g0]? = some (.cells cs0 9 (0, 0)) := by rw [Below.heap_setCell _ _ _ _ hng]; exact hg3
                  have hx4 := hx3.set (p := ⟨gb, k0 * 5 + 2, none⟩) (Nat.le_trans hwB hBgb) (.slice (some ⟨gg, 0, none⟩) (nx + n2) cap2)
                  have hsz4 : m ≤ (w3.setCell ⟨gb, k0 * 5 + 2, none⟩ (.slice (some ⟨gg, 0, none⟩) (nx + n2) cap2)).heap.size := by simp [World.setCell]; exact hsz3
                  obtain ⟨w4, hw4⟩ : ∃ w4, w4 = w3.setCell ⟨gb, k0 * 5 + 2, none⟩ (.slice (some ⟨gg, 0, none⟩) (nx + n2) cap2) := ⟨_, rfl⟩
                  rw [← hw4] at hp4 hg4 hx4 hsz4 hOut ⊢
                  have z0 := hp4.cell (i := 0) rfl
                  have O1 := Lib.hid hOut
                  have O2 := Lib.hid hx4
                  have O3 := Lib.hid hg4
                  clear hp4 hg4 hx4 hOut hw4 hp3 hg3 hx3 hown1 hgrow hat e1 e2 hfc hff q0 q1 q2 q3 q4 p0 p1 p2 p3 p4 p5 hd1 hfb
                  go_wp2_with fail
                  go_roundw
                  case rel => exact ⟨k + 1, m, by go_num, by omega, HNX0.out, by first | rw [HS2.out.2] | (rw [HS2.out.2, HK2.out]; rfl), by rw [HS2.out.1, HS2.out.2, HK2.out]; exact O1.out, by omega, by omega, O3.out, O2.out⟩
                  case measure => simp [intOf]; omega)
            · -- one more block
              have hadd : addA out op Q.1 = out ++ [Q.1] := by
                unfold addA
                rw [if_neg hkne, if_neg]
                intro h
                exact cm ⟨by rw [HE1.out]; exact h.1, h.2⟩
              have hbo : ((((kk : Nat) : Int) == ((op : Nat) : Int)) = false) ∨ ((((kk : Nat) : Int) == ((op : Nat) : Int)) = true ∧ (((kk : Nat) : Int) == 2) = false ∧ (((kk : Nat) : Int) == 3) = false) := by
                by_cases h : kk = op
                · right
                  have h2 : ¬ (kk = 2 ∨ kk = 3) := fun e => cm ⟨h, by rw [← h]; exact e⟩
                  refine ⟨by rw [h]; simp, ?_, ?_⟩
                  · simp; omega
                  · simp; omega
                · left
                  simp; omega
              obtain ⟨wC, hwC⟩ : ∃ W, W = wB.alloc (.cells #[.int .i64 (kk : Int), .slice A1 n1 c1, .slice A2 n2 c2, .string r, .int .i64 (wd : Int)] 39) := ⟨_, rfl⟩
              have hxC : Ext wB wC := by rw [hwC]; exact (Ext.refl wB).alloc _
              have HCB : Hid (wC.heap[wB.heap.size]? = some (.cells #[.int .i64 (kk : Int), .slice A1 n1 c1, .slice A2 n2 c2, .string r, .int .i64 (wd : Int)] 39 (0, 0))) := by rw [hwC]; exact heap_alloc_new wB _
              have HXC := Lib.hid (HXR.out.trans hxC)
              have HOC := Lib.hid (own_ext HG2.out HXC.out)
              have hcl : ∀ M, wr.heap.size ≤ M → ∀ y ∈ ms, MOk wC M y := fun M hM y hy => ((HG3.out y hy).ext HXC.out).mono hM
              obtain ⟨M, hM1, hM2, hlast⟩ := rline_last hgd hkne (HXB.out.trans hxC) hsr HLI.out
              have hBC : B ≤ wC.heap.size := by have h1 := HBB1.out; have h2 := HXC.out.size; omega
              have HBC := Lib.hid hBC
              have HPB := Lib.hid (HBB.out.ext hxC)
              have HGC := Lib.hid (ext_heap HXC.out HG.out)
              have HPU : Hid (∀ (w4 : World) (dv : Value), wC.grownBy w4 (Value.slice A n c).ownBlock → w4.ownsRow B 39 5 dv (n + 1) (mcells ms ++ [.int .i64 (kk : Int), .slice A1 n1 c1, .slice A2 n2 c2, .string r, .int .i64 (wd : Int)]) →
                  OutI w4 B M dv (out ++ [Q.1]) kk ∧ Ext w w4 ∧ w4.heap[g0]? = some (.cells cs0 9 (0, 0)) ∧ Blk w4 wA.heap.size 39 [.int .i64 (kk : Int), .slice A1 n1 c1, .slice A2 n2 c2, .string r, .int .i64 (wd : Int)]) := by
                intro w4 dv hgr hown2
                rw [← HCE.out] at hown2
                have hp := out_push (x := ⟨Q.1, .slice A1 n1 c1, .slice A2 n2 c2⟩) (ms := ms) (by rw [← HNM.out]; exact HOC.out) (hcl M hM1) hlast hBC hgr (by rw [← HNM.out]; exact hown2)
                rw [HG1.out] at hp
                rw [HE1.out]
                refine ⟨hp, ?_, grown_heap hgr HGC.out (own_far HOC.out HGC.out (by decide)), ?_⟩
                · exact Ext.grown (HX.out.trans HXC.out) hgr (fun j hj => Nat.le_trans hwB (HOC.out.lt j hj).1)
                · unfold Blk
                  rw [← HE1.out]
                  refine grown_heap hgr HPB.out (fun e => ?_)
                  obtain ⟨-, cs2, h2⟩ := own_at HG2.out e.symm
                  have := heap_lt h2
                  omega
              have HS2 : Hid (outA (ls.take (k + 1)) [] 0 = out ++ [Q.1] ∧ opA (ls.take (k + 1)) 0 = kk) := ⟨HSN.out.1.trans hadd, HSN.out.2⟩
              obtain ⟨i0, hi, hz0, hz1, hz2⟩ := info_parts blockInfo
              have HWC := Lib.hid hwC
              have hMm : M ≤ wC.heap.size := hM2
              clear hadd hwC hxC hcl hlast hgd hkne cm ck0 hBC hM2
              rcases hbo with hb1 | ⟨hb1, hb2, hb3⟩
              all_goals (
                go_wp2_with (first | rw [← HWA.out] | rw [← HWB.out] | rw [← HWC.out] | (at_builtin; refine wpList_append_own _ rfl (.tmp 38) (.tmp 40) _ rfl B 39 i0 _ 5 80 Tryd.underlying23 hi hz0 hz1 hz2 rfl (by omega) _ _ _ rfl HOC.out ⟨wB.heap.size, 0, none⟩ 1 1 [.int .i64 (kk : Int), .slice A1 n1 c1, .slice A2 n2 c2, .string r, .int .i64 (wd : Int)] rfl rfl ?k1 ?k2 ?k3 ?k4 ?k5 ?_))
                case k1 => exact World.news_of_block HCB.out
                case k2 => intro u hu; simp at hu; rcases hu with rfl | rfl | rfl | rfl | rfl <;> rfl
                case k3 => unfold maxLen; omega
                case k4 => omega
                case k5 => exact HBC.out
                intro dv w4 hown2 hgr _
                obtain ⟨o1, o2, o3, o4⟩ := HPU.out w4 dv hgr hown2
                have hsz4 := hgr.size
                have z0 := o4.cell (i := 0) rfl
                have O1 := Lib.hid o1
                have O2 := Lib.hid o2
                have O3 := Lib.hid o3
                clear hown2 hgr o1 o2 o3 o4 q0 q1 q2 q3 q4 p0 p1 p2 p3 p4 p5
                go_wp2_with fail
                go_roundw
                case rel => exact ⟨k + 1, M, by go_num, by omega, HNX0.out, by rw [HS2.out.2], by rw [HS2.out.1, HS2.out.2]; exact O1.out, by omega, by omega, O3.out, O2.out⟩
                case measure => simp [intOf]; omega)
        · have hez : (((er : Nat) : Int) != 0) = true := by simp; omega
          have hR3 := HBAD.out (by rw [← her]; exact herr)
          rw [← her] at hR3
          have HR3 := Lib.hid hR3
          clear hok herr her hR3
          go_wp2_with (rw [← HWA.out])
          go_quiet (fail)
          go_wp2_with fail
          all_goals (exact bodyPost_ret (v := .tuple #[.slice none 0 0, .int .i64 ((k : Int) + 1), .int .i64 ((er : Nat) : Int)]) (by simp [results, Tryd.results11, go_sem]) rfl ⟨_, by rw [HR3.out]; rfl, by rw [HR3.out]; exact DL.nil _, ((HX.out.trans HX2.out).trans HXA.out).drewN _⟩)
      · obtain rfl : k = N := by omega
        obtain ⟨A, n, c, rfl⟩ := hO.slice
        have hfull : ls.take k = ls := by rw [HN.out, List.take_length]
        rw [hfull] at hO hall
        have hR3 : R = (outA ls [] 0, 0, 0) := by rw [HR2.out, errA_all ls 1 hall]
        have hdl := hO.dl
        have HDL := Lib.hid hdl
        have HR3 := Lib.hid hR3
        clear hO hall hfull hR3 hdl
        go_wp2_with fail
        exact bodyPost_ret (v := .tuple #[.slice A n c, .int .i64 0, .int .i64 0]) (by simp [results, Tryd.results11, go_sem]) rfl ⟨_, by rw [HR3.out]; rfl, by rw [HR3.out]; exact HDL.out, hx⟩
end Go.Proofs.YtapjhnlnfliljaaDoor
