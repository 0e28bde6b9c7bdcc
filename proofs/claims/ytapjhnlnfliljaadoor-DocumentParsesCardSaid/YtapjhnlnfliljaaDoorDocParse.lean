/- document.Parse. (Layer 49) -/
import Derived.Test.YtapjhnlnfliljaaDoorDocEmit3
namespace Go.Proofs.YtapjhnlnfliljaaDoor
open Go.RowKit
open Go.Lib hiding intOf
set_option linter.unusedVariables false
set_option linter.unusedSimpArgs false

theorem errA_take : ∀ (ls : List Bytes) (k i : Nat), (∀ s ∈ ls.take k, (lineA s).2 = 0) → errA ls i = errA (ls.drop k) (i + k)
  | ls, 0, i, _ => rfl
  | [], k + 1, i, _ => rfl
  | s :: r, k + 1, i, h => by
    rw [errA, if_neg (by rw [h s (by simp)]; decide), errA_take r k (i + 1) (fun x hx => h x (by simp [hx])), List.drop_succ_cons, show i + 1 + k = i + (k + 1) by omega]
theorem errA_all (ls : List Bytes) (i : Nat) (h : ∀ s ∈ ls, (lineA s).2 = 0) : errA ls i = none := by
  have := errA_take ls ls.length i (by rw [List.take_length]; exact h)
  rw [List.drop_length] at this
  exact this
theorem errA_at (ls : List Bytes) (k : Nat) (h : k < ls.length) (hp : ∀ s ∈ ls.take k, (lineA s).2 = 0) (he : (lineA ls[k]).2 ≠ 0) : errA ls 1 = some (k + 1, (lineA ls[k]).2) := by
  rw [errA_take ls k 1 hp, List.drop_eq_getElem_cons h, errA, if_pos he, Nat.add_comm]
theorem outA_snoc (ls : List Bytes) (k : Nat) (h : k < ls.length) : outA (ls.take (k + 1)) [] 0 = addA (outA (ls.take k) [] 0) (opA (ls.take k) 0) (lineA ls[k]).1 ∧ opA (ls.take (k + 1)) 0 = (lineA ls[k]).1.kind := by
  rw [List.take_succ_eq_append_getElem h, outA_append, opA_append]
  exact ⟨rfl, rfl⟩
theorem opA_ne : ∀ (ls : List Bytes) (out : List DB) (op : Nat), (op = 2 ∨ op = 3 → out ≠ []) → (opA ls op = 2 ∨ opA ls op = 3 → outA ls out op ≠ [])
  | [], _, _, h => h
  | s :: r, out, op, h => by
    rw [opA, outA]
    refine opA_ne r _ _ (fun hk => ?_)
    rcases addA_free out op (lineA s).1 with h1 | h1
    · exact h1
    · exact absurd hk h1
theorem Near.blk {B pp po g : Nat} {w w' : World} {T : TypeId} {xs : List Value} (h : Near B pp po w w') (hb : Blk w g T xs) (hg : g < B) (h1 : g ≠ pp) (h2 : g ≠ po) : Blk w' g T xs := by
  unfold Blk
  rw [h.block g hg h1 h2]
  exact hb
theorem Near.ext {B pp po : Nat} {w w1 w2 : World} (h : Ext w w1) (hn : Near B pp po w1 w2) (hB : w.heap.size ≤ B) (h1 : w.heap.size ≤ pp) (h2 : w.heap.size ≤ po) : Ext w w2 :=
  ⟨hn.os.trans h.os, hn.tape.trans h.tape, hn.output.trans h.output, Nat.le_trans h.size hn.size, fun i hi => by rw [hn.block i (by omega) (by omega) (by omega)]; exact h.block i hi⟩
theorem Near.cell_env {B pp po : Nat} {w w1 w2 : World} (h : Ext w w1) (hn : Near B pp po w1 w2) (hB : w.heap.size ≤ B) (h1 : w.heap.size ≤ pp) (h2 : w.heap.size ≤ po) (hE : Env w) : Env w2 := hE.ext (Near.ext h hn hB h1 h2)
theorem OutI.slice {w : World} {B m : Nat} {ov : Value} {out : List DB} {op : Nat} (h : OutI w B m ov out op) : ∃ A n c, ov = .slice A n c := by
  obtain ⟨ms, -, h2, -⟩ := h
  obtain ⟨A, c, h, -⟩ := own_slice h2
  exact ⟨A, _, c, h⟩
theorem LineV.ext {w w' : World} {m : Nat} {b : DB} {vw vc : Value} (h : LineV w m b vw vc) (hx : Ext w w') : LineV w' m b vw vc :=
  ⟨fun e => ((h.one e).ext hx).mono hx.size, fun e => own_ext (h.two e) hx, fun e => let ⟨r, h1, h2⟩ := h.three e; ⟨r, h1, (h2.ext hx).mono hx.size⟩, h.nilw⟩
set_option maxRecDepth 100000 in
set_option maxHeartbeats 6400000 in
theorem parse_any (s : ByteArray) (w : World) (hE : Env w) (hS : Sy w) (hs : s.size ≤ maxLen) :
    Calls Tryd.prog 10 #[.string s] w fun e w' => ∃ v, e = .returned (.tuple #[v, .int .i64 ((parseA s.data.toList).2.1 : Nat), .int .i64 ((parseA s.data.toList).2.2 : Nat)]) ∧ DL w' v (parseA s.data.toList).1 ∧ Ext w w' := by
  have hsl : s.data.toList.length = s.size := by simp
  unfold maxLen at hs
  by_cases hbig : 20000 < s.size
  · have hr : parseA s.data.toList = ([], 0, 6) := by unfold parseA; exact if_pos (by omega)
    rw [hr]
    have hd : decide ((20000 : Int) < (s.size : Int)) = true := decide_eq_true (by omega)
    clear hr hsl hbig
    go_enter Tryd.func10, Tryd.ntmps10
    go_wp2_with fail
    exact bodyPost_ret (v := .tuple #[.slice none 0 0, .int .i64 0, .int .i64 6]) (by simp [results, Tryd.results10, go_sem]) rfl ⟨_, rfl, DL.nil _, Ext.refl _⟩
  · have hd : decide ((20000 : Int) < (s.size : Int)) = false := decide_eq_false (by omega)
    obtain ⟨R, hR⟩ : ∃ R, R = parseA s.data.toList := ⟨_, rfl⟩
    rw [← hR]
    have HR := Lib.hid hR
    have hx2 : ∀ W, W = (w.alloc (.cells #[.slice none 0 0] 23)).alloc (.cells #[.int .i64 0] 3) → Ext w W := fun W h => by rw [h]; exact ((Ext.refl w).alloc _).alloc _
    obtain ⟨w0, hw0⟩ : ∃ W, W = (w.alloc (.cells #[.slice none 0 0] 23)).alloc (.cells #[.int .i64 0] 3) := ⟨_, rfl⟩
    have hx0 := hx2 w0 hw0
    have hs0 : w0.heap.size = w.heap.size + 2 := by rw [hw0]; simp
    have HPO : Hid (Blk w0 w.heap.size 23 [.slice none 0 0]) := by rw [hw0]; exact (show Blk (w.alloc _) w.heap.size _ _ from heap_alloc_new w _).alloc _
    have HPP : Hid (Blk w0 (w.heap.size + 1) 3 [.int .i64 ((0 : Nat) : Int)]) := by
      have := heap_alloc_new (w.alloc (.cells #[.slice none 0 0] 23)) (.cells #[.int .i64 0] 3)
      rw [show (w.alloc (.cells #[.slice none 0 0] 23)).heap.size = w.heap.size + 1 by simp, ← hw0] at this
      exact this
    have hsp := split_any 10 s w0 (by omega) (hE.ext hx0)
    have hsum := cutAt_sum 10 s.data.toList []
    rw [List.length_nil, Nat.zero_add] at hsum
    have hpa : parseA s.data.toList = (match errA (linesA s.data.toList) 1 with | some (k, e) => ([], k, e) | none => (outA (linesA s.data.toList) [] 0, 0, 0)) := by
      unfold parseA
      rw [if_neg (by omega), goA_eq]
      rfl
    rw [hpa] at hR
    have hll : cutAt 10 [] s.data.toList = linesA s.data.toList := rfl
    rw [hll] at hsp hsum
    generalize linesA s.data.toList = ls at *
    have HR2 := Lib.hid hR
    have hlen : ls.length ≤ 20001 := by have := len_lenS ls; omega
    have hmem : ∀ x ∈ ls, x.length ≤ 20001 := fun x hx => by have := sum_mem ls x hx; omega
    have HM := Lib.hid hmem
    obtain ⟨N, hN⟩ : ∃ N, N = ls.length := ⟨_, rfl⟩
    have HN := Lib.hid hN
    rw [← hN] at hsp hlen
    have HSP := Lib.hid hsp
    have HX0 := Lib.hid hx0
    have HEE := Lib.hid hE
    have HSS := Lib.hid hS
    have HSUM : Hid (lenS ls ≤ 20001) := by show _ ≤ _; omega
    have hmf : ∀ (fn : Fn) (first cap : Array Value) (w : World), (Instr.makeFunc fn first cap).run Tryd.prog w = .ok (.func fn first cap) w := fun _ _ _ _ => rfl
    clear hR hpa hsp hsum hll hmem hx0 hE hS hsl hbig hN hx2
    go_enter Tryd.func10, Tryd.ntmps10
    go_wp2_with fail
    rw [← hw0]
    refine HSP.out.mono ?_
    rintro e w1 ⟨rfl, hb, hx1⟩
    have hxw1 := HX0.out.trans hx1
    have hp1 := HPP.out.ext hx1
    have hq1 := HPO.out.ext hx1
    obtain ⟨po, hpo⟩ : ∃ x, x = w.heap.size := ⟨_, rfl⟩
    obtain ⟨pp, hpp⟩ : ∃ x, x = w.heap.size + 1 := ⟨_, rfl⟩
    obtain ⟨g0, hg0⟩ : ∃ x, x = w0.heap.size := ⟨_, rfl⟩
    obtain ⟨B, hB⟩ : ∃ x, x = w1.heap.size := ⟨_, rfl⟩
    have hb1 : Blk w1 g0 9 (strsV ls) := by rw [hg0]; exact hb
    rw [← hpp] at hp1
    rw [← hpo] at hq1
    have hg0B : g0 < B := by rw [hB]; exact hb1.lt
    have hord : Hid (w.heap.size ≤ B ∧ w.heap.size ≤ pp ∧ w.heap.size ≤ po ∧ g0 ≠ pp ∧ g0 ≠ po) := by
      have h1 := hxw1.size
      exact ⟨by omega, by omega, by omega, by omega, by omega⟩
    have hI0 : OutI w1 B B (.slice none 0 0) [] 0 := ⟨[], rfl, own_nil, fun x hx => (by cases hx), fun x hx => (by cases hx)⟩
    have HI0 := Lib.hid hI0
    have HP1 := Lib.hid hp1
    have HQ1 := Lib.hid hq1
    have HB1 := Lib.hid hb1
    have HXW := Lib.hid hxw1
    have HBle : Hid (B ≤ w1.heap.size) := Nat.le_of_eq hB
    rw [← hpp, ← hpo, ← hg0]
    clear hb hx1 hxw1 hp1 hq1 hpo hpp hg0 hb1 hI0 hw0 hs0 hB HSP HPP HPO HX0
    go_wp2_with fail
    go_loopw [19] (fun i W => ∃ (k m : Nat) (ov : Value), i = .int .i64 (k : Int) ∧ k ≤ N ∧ (∀ s ∈ ls.take k, (lineA s).2 = 0) ∧ OutI W B m ov (outA (ls.take k) [] 0) (opA (ls.take k) 0) ∧ B ≤ m ∧ m ≤ W.heap.size ∧ Blk W pp 3 [.int .i64 ((opA (ls.take k) 0 : Nat) : Int)] ∧ Blk W po 23 [ov] ∧ Blk W g0 9 (strsV ls) ∧ Ext w W) (fun i _ => N - (intOf i).toNat)
    case atStart => exact ⟨0, B, _, rfl, Nat.zero_le _, (fun x hx => (by cases hx)), HI0.out, Nat.le_refl _, HBle.out, HP1.out, HQ1.out, HB1.out, HXW.out⟩
    case round =>
      obtain ⟨k, m, ov, rfl, hk, hall, hO, hBm, hmW, hp, hq, hbl, hx⟩ := hrel
      by_cases hkN : k < N
      · have hkl : k < ls.length := by rw [← HN.out]; exact hkN
        have hc := hbl.cell (i := k) (strsV_get ls k _ (List.getElem?_eq_getElem hkl))
        have hcl := classify_any (BA ls[k]) wr (by rw [BA_size]; have := HM.out ls[k] (List.getElem_mem hkl); omega) (HEE.out.ext hx) (HSS.out.ext hx)
        rw [BA_data] at hcl
        have hsn := outA_snoc ls k hkl
        have hwt : wtL (outA (ls.take k) [] 0) + wtB (lineA ls[k]).1 ≤ 1000000 := by
          have h1 := outA_wt (ls.take k) [] 0
          have h2 := sum_take ls k
          have h3 := lineA_wt ls[k]
          have h4 := HM.out ls[k] (List.getElem_mem hkl)
          have h5 := HSUM.out
          have h6 : wtL ([] : List DB) = 0 := rfl
          have h7 : ls[k].length = List.length ls[k] := rfl
          omega
        have hgood := lineA_good ls[k]
        have hbad : (lineA ls[k]).2 ≠ 0 → R = ([], k + 1, (lineA ls[k]).2) := fun h => by
          rw [HR2.out, errA_at ls k hkl hall h]
        have hnext : (lineA ls[k]).2 = 0 → ∀ s ∈ ls.take (k + 1), (lineA s).2 = 0 := fun h x hx => by
          rw [List.take_succ_eq_append_getElem hkl] at hx
          rcases List.mem_append.1 hx with hx | hx
          · exact hall x hx
          · rw [List.mem_singleton.1 hx]; exact h
        have hne := opA_ne (ls.take k) [] 0 (fun h => by omega)
        generalize ls[k] = x at *
        generalize lineA x = Q at *
        have HCL := Lib.hid hcl
        have HSN := Lib.hid hsn
        have HBAD := Lib.hid hbad
        have HNEXT := Lib.hid hnext
        have HNE := Lib.hid hne
        have HGOOD := Lib.hid hgood
        have HO := Lib.hid hO
        have HP := Lib.hid hp
        have HQ := Lib.hid hq
        have HBL := Lib.hid hbl
        have HX := Lib.hid hx
        have HWT := Lib.hid hwt
        clear hcl hsn hbad hnext hne hgood hO hp hq hbl hx hwt hall hkl
        go_wp2_with fail
        refine HCL.out.mono ?_
        rintro e w2 ⟨kk, vw, vc, r, wd, rfl, hx2, ⟨A1, n1, c1, rfl⟩, ⟨A2, n2, c2, rfl⟩, hok⟩
        by_cases herr : Q.2 = 0
        · obtain ⟨e1, e2, e3, hline⟩ := hok herr
          subst e1 e2 e3
          have hez : (((Q.2 : Nat) : Int) != 0) = false := by rw [herr]; rfl
          have hx3 : Ext w2 (w2.alloc (.cells #[.int .i64 (Q.1.kind : Int), .slice A1 n1 c1, .slice A2 n2 c2, .string (BA Q.1.runs), .int .i64 (Q.1.width : Int)] 42)) := (Ext.refl w2).alloc _
          have hx23 := hx2.trans hx3
          have hem := emit_any wr _ B m pp po ov (outA (ls.take k) [] 0) (opA (ls.take k) 0) Q.1 (.slice A1 n1 c1) (.slice A2 n2 c2) HGOOD.out HNE.out ⟨_, _, _, rfl⟩ ⟨_, _, _, rfl⟩ ⟨HO.out, hBm, hmW, hx23, HP.out.ext hx23, HQ.out.ext hx23, hline.ext hx3, HWT.out⟩
          have HEM := Lib.hid hem
          have HX23 := Lib.hid hx23
          have HERR := Lib.hid herr
          clear hok hline hem herr hx2 hx3 hx23
          go_wp2_with fail
          refine HEM.out.mono ?_
          rintro e w4 ⟨rfl, ov', m', hO', hBm', hm', hp', hq', hn⟩
          have hsn := HSN.out
          rw [← hsn.1, ← hsn.2] at hO'
          rw [← hsn.2] at hp'
          have hbl' := hn.blk (HBL.out.ext HX23.out) hg0B hord.out.2.2.2.1 hord.out.2.2.2.2
          have hxx := Near.ext (HX.out.trans HX23.out) hn hord.out.1 hord.out.2.1 hord.out.2.2.1
          have HO' := Lib.hid hO'
          have HP' := Lib.hid hp'
          have HQ' := Lib.hid hq'
          have HBL' := Lib.hid hbl'
          have HXX := Lib.hid hxx
          clear hO' hp' hq' hn hbl' hxx hsn
          go_wp2_with fail
          go_roundw
          case rel => exact ⟨k + 1, m', ov', by go_num, by omega, HNEXT.out HERR.out, HO'.out, hBm', hm', HP'.out, HQ'.out, HBL'.out, HXX.out⟩
          case measure => simp [intOf]; omega
        · have hez : (((Q.2 : Nat) : Int) != 0) = true := by simp; omega
          have HR3 := Lib.hid (HBAD.out herr)
          clear hok herr
          go_wp2_with fail
          exact bodyPost_ret (v := .tuple #[.slice none 0 0, .int .i64 ((k : Int) + 1), .int .i64 ((Q.2 : Nat) : Int)]) (by simp [results, Tryd.results10, go_sem]) rfl ⟨_, by rw [HR3.out]; rfl, by rw [HR3.out]; exact DL.nil _, (HX.out.trans hx2).alloc _⟩
      · obtain rfl : k = N := by omega
        obtain ⟨A, n, c, rfl⟩ := hO.slice
        have hfull : ls.take k = ls := by rw [HN.out, List.take_length]
        rw [hfull] at hO hall
        have hR3 : R = (outA ls [] 0, 0, 0) := by rw [HR2.out, errA_all ls 1 hall]
        have hdl := hO.dl
        have o0 := hq.cell (i := 0) rfl
        have HDL := Lib.hid hdl
        have HR3 := Lib.hid hR3
        clear hO hall hp hq hbl hfull hR3 hdl
        go_wp2_with fail
        exact bodyPost_ret (v := .tuple #[.slice A n c, .int .i64 0, .int .i64 0]) (by simp [results, Tryd.results10, go_sem]) rfl ⟨_, by rw [HR3.out]; rfl, by rw [HR3.out]; exact HDL.out, hx⟩
end Go.Proofs.YtapjhnlnfliljaaDoor
