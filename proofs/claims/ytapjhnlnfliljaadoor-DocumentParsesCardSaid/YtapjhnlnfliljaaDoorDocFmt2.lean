/- The walk of document.format, kind 3. (Layer 49) -/
import Derived.Test.YtapjhnlnfliljaaDoorDocFmt
import Derived.Test.YtapjhnlnfliljaaDoorBuild
namespace Go.Proofs.YtapjhnlnfliljaaDoor
open Go.RowKit
open Go.Lib hiding intOf
open Dec
set_option linter.unusedVariables false

theorem flat_take {α : Type} (f : α → Bytes) (l : List α) (k : Nat) (h : k < l.length) : (l.take (k + 1)).flatMap f = (l.take k).flatMap f ++ f l[k] := by
  rw [List.take_succ_eq_append_getElem h, List.flatMap_append]; simp
theorem flat_le {α : Type} (f : α → Bytes) (l : List α) (k : Nat) : ((l.take k).flatMap f).length ≤ (l.flatMap f).length := by
  conv => rhs; rw [← List.take_append_drop k l, List.flatMap_append, List.length_append]
  omega
theorem flat_mem {α : Type} (f : α → Bytes) (l : List α) (k : Nat) (h : k < l.length) : (f l[k]).length ≤ (l.flatMap f).length := by
  have h1 := flat_le f l (k + 1)
  rw [flat_take f l k h, List.length_append] at h1
  omega
theorem rows_at {w : World} {A : Option Addr} {n c : Nat} {vs : List Value} {rows : List (List Bytes)} (h : Lst w A n c vs) (hn : n = rows.length) (hv : ∀ (i : Nat) (r : List Bytes), rows[i]? = some r → ∃ u, vs[i]? = some u ∧ SL w w.heap.size u r) (k : Nat) (hk : k < rows.length) :
    ∃ g off A2 c2, A = some ⟨g, off, none⟩ ∧ w.cell? ⟨g, off + k, none⟩ = some (.slice A2 rows[k].length c2) ∧ Lst w A2 rows[k].length c2 (strsV rows[k]) := by
  obtain ⟨u, h1, A2, c2, rfl, -, h2, -⟩ := hv k rows[k] (List.getElem?_eq_getElem hk)
  obtain ⟨g, off, rfl, hc⟩ := h.at_ (by omega)
  obtain ⟨hk2, h1⟩ := List.getElem?_eq_some_iff.1 h1
  exact ⟨g, off, A2, c2, rfl, by rw [hc k hk2, h1], h2⟩
set_option maxRecDepth 100000 in
set_option maxHeartbeats 3200000 in
theorem format_3 (x : MB) (w : World) (hw : ∃ A n c, x.vw = .slice A n c) (hr : RL w w.heap.size x.vr x.b.rows) (hk : x.b.kind = 3) (hz : wtB x.b ≤ 200000) :
    Calls Tryd.prog 32 #[blkV x] w fun e w' => e = .returned (.tuple #[.string (BA (x.b.rows.flatMap rowF)), .int .i64 0]) ∧ Ext w w' := by
  have hT : (x.b.rows.flatMap rowF).length ≤ 200000 := by rw [fmt_rows]; unfold wtB at hz; omega
  unfold blkV
  obtain ⟨A2, n2, c2, hw⟩ := hw
  obtain ⟨A, c, vs, hvr, -, hl, hv, -⟩ := hr
  rw [hk, hvr, hw, show ((3 : Nat) : Int) = 3 from rfl]
  have HRow := Lib.hid (fun k hk => rows_at hl rfl hv k hk)
  have hroom := hl.room
  have hmax := hl.max
  unfold maxLen at hmax
  generalize x.b.rows = rows at *
  generalize BA x.b.runs = R at *
  generalize x.b.width = wd at *
  obtain ⟨n, hn⟩ : ∃ n, n = rows.length := ⟨_, rfl⟩
  rw [← hn] at hroom ⊢
  have HN := Lib.hid hn
  have HT := Lib.hid hT
  clear hk hvr hw hl hv hz hn hT
  have hx1 : Ext w (w.alloc (.cells #[.int .i64 3, .slice A2 n2 c2, .slice A n c, .string R, .int .i64 (wd : Int)] 39)) := (Ext.refl w).alloc _
  obtain ⟨W, hW⟩ : ∃ W, W = w.alloc (.cells #[.int .i64 3, .slice A2 n2 c2, .slice A n c, .string R, .int .i64 (wd : Int)] 39) := ⟨_, rfl⟩
  go_enter Tryd.func32, Tryd.ntmps32
  go_wp2_with fail
  rw [show w.alloc (.cells #[.int .i64 3, .slice A2 n2 c2, .slice A n c, .string R, .int .i64 (wd : Int)] 39) = W from hW.symm]
  rw [← hW] at hx1
  have hWs : w.heap.size + 1 = W.heap.size := by rw [hW]; simp
  rw [hWs]
  clear hW hWs
  have hb0 := Lib.hid (Bld.fresh W (W.alloc (.cells #[.pointer none, .slice none 0 0] 55)) W.heap.size W.heap.size (Nat.le_refl _) (heap_alloc_new W _))
  go_loopw [6, 8, 29] (fun r6 r8 i wr => ∃ k : Nat, k ≤ n ∧ i = .int .i64 k ∧ Bld W.heap.size W.heap.size ((rows.take k).flatMap rowF) wr ∧ Ext W wr) (fun _ _ i _ => n - (intOf i).toNat)
  case atStart => exact ⟨0, Nat.zero_le _, rfl, hb0.out, (Ext.refl W).alloc _⟩
  case round =>
    obtain ⟨k, hk, rfl, hbd, hx⟩ := hrel
    by_cases hkn : k < n
    · have hkr : k < rows.length := by rw [← HN.out]; exact hkn
      obtain ⟨g, off, A3, c3, rfl, hc, hl3⟩ := HRow.out k hkr
      have hxw := hx1.trans hx
      have hc := hxw.cell hc
      have hl3 := hl3.ext hx1
      have b1 := flat_mem rowF rows k hkr
      have b2 := flat_take rowF rows k hkr
      have b3 := flat_le rowF rows k
      have b4 := HT.out
      have room3 := hl3.room
      have max3 := hl3.max
      unfold maxLen at max3
      generalize rows[k] = r at *
      obtain ⟨m, hm⟩ : ∃ m, m = r.length := ⟨_, rfl⟩
      rw [← hm] at hc hl3 room3
      obtain ⟨out, ho⟩ : ∃ out, out = (rows.take k).flatMap rowF := ⟨_, rfl⟩
      rw [← ho] at hbd b2 b3
      have hrl : (rowF r).length = (r.flatMap cellF).length + 2 := by unfold rowF; simp
      have hz1 : out.length ≤ 200000 := by omega
      have hz2 : (r.flatMap cellF).length ≤ 200000 := by omega
      have HB := Lib.hid hbd
      have HM := Lib.hid hm
      have HC3 := Lib.hid hl3
      have HNX := Lib.hid b2
      have HZ2 := Lib.hid hz2
      clear hbd hm hl3 b1 b2 b3 b4 ho hrl hz2 hkr
      go_wp2_with fail
      refine (bld_str W.heap.size W.heap.size out ⟨#[124]⟩ wr HB.out (by show out.length + 1 ≤ _; omega) hx.size).mono ?_
      rintro e w2 ⟨rfl, hb2, hlo2, hkp2⟩
      have hx2 : Ext W w2 := Below.trans hx hlo2
      have HB2 := Lib.hid hb2
      clear hb2 hkp2 hlo2
      go_wp2_with fail
      go_loopw [8, 36] (fun r8 i wi => ∃ j : Nat, j ≤ m ∧ i = .int .i64 j ∧ Bld W.heap.size W.heap.size (out ++ [124] ++ (r.take j).flatMap cellF) wi ∧ Ext W wi) (fun _ i _ => m - (intOf i).toNat)
      case atStart => exact ⟨0, Nat.zero_le _, rfl, by have := HB2.out; simpa using this, hx2⟩
      case round =>
        obtain ⟨j, hj, rfl, hbd, hxi⟩ := hrel
        by_cases hjm : j < m
        · have hjr : j < r.length := by rw [← HM.out]; exact hjm
          obtain ⟨g3, o3, rfl, q3⟩ := HC3.out.at_ (by omega)
          have q4 := hxi.cell (q3 j (by rw [strsV_len]; exact hjr))
          clear q3
          simp only [strsV, List.getElem_map] at q4
          have b1 := flat_mem cellF r j hjr
          have b2 := flat_take cellF r j hjr
          have b3 := flat_le cellF r j
          have b4 := HZ2.out
          generalize r[j] = t at *
          have hct : (cellF t).length = t.length + 3 := by unfold cellF; simp
          have htz : (BA t).size ≤ 200000 := by rw [BA_size]; omega
          have hst : Hid (out ++ [124] ++ (r.take (j + 1)).flatMap cellF = out ++ [124] ++ (r.take j).flatMap cellF ++ (⟨#[32]⟩ ++ BA t ++ ⟨#[32, 124]⟩ : ByteArray).data.toList) := by
            show _ = _
            rw [b2]
            simp [cellF, BA_data]
          have htot : Hid ((out ++ [124] ++ (r.take j).flatMap cellF).length + (⟨#[32]⟩ ++ BA t ++ ⟨#[32, 124]⟩ : ByteArray).size ≤ 140737488355328) := by
            show _ ≤ _
            rw [ByteArray.size_append, ByteArray.size_append, List.length_append, List.length_append]
            show _ + 1 + _ + (1 + _ + 2) ≤ _
            omega
          have HB := Lib.hid hbd
          clear hbd b1 b2 b3 b4 hct hjr
          generalize BA t = T at *
          go_wp2_with fail
          generalize (⟨#[32]⟩ ++ T ++ ⟨#[32, 124]⟩ : ByteArray) = SB at *
          refine (bld_str W.heap.size W.heap.size _ SB wr HB.out htot.out hxi.size).mono ?_
          rintro e w3 ⟨rfl, hb3, hlo3, hkp3⟩
          have HB3 := Lib.hid hb3
          have HX3 : Hid (Ext W w3) := Below.trans hxi hlo3
          clear hb3 hkp3 hlo3
          go_wp2_with fail
          go_roundw
          case rel => exact ⟨j + 1, by omega, by go_num, by rw [hst.out]; exact HB3.out, HX3.out⟩
          case measure => simp [intOf]; omega
        · obtain rfl : j = m := by omega
          have hfin : out ++ [124] ++ (r.take j).flatMap cellF = out ++ [124] ++ r.flatMap cellF := by rw [List.take_of_length_le (by rw [← HM.out]; exact Nat.le_refl _)]
          rw [hfin] at hbd
          have HB := Lib.hid hbd
          have HZ : Hid ((out ++ [124] ++ r.flatMap cellF).length + 1 ≤ 140737488355328) := by
            show _ ≤ _
            have := HZ2.out
            rw [List.length_append, List.length_append]
            show out.length + 1 + _ + 1 ≤ _
            omega
          clear hfin hbd
          go_wp2_with fail
          refine (bld_str W.heap.size W.heap.size _ ⟨#[10]⟩ wr HB.out HZ.out hxi.size).mono ?_
          rintro e w3 ⟨rfl, hb3, hlo3, hkp3⟩
          have HB3 := Lib.hid hb3
          have HX3 : Hid (Ext W w3) := Below.trans hxi hlo3
          clear hb3 hkp3 hlo3
          go_wp2_with fail
          go_roundw
          case rel => exact ⟨k + 1, by omega, by go_num, by rw [HNX.out]; have := HB3.out; simpa [rowF] using this, HX3.out⟩
          case measure => simp [intOf]; omega
    · obtain rfl : k = n := by omega
      have hfin : (rows.take k).flatMap rowF = rows.flatMap rowF := by rw [List.take_of_length_le (by rw [← HN.out]; exact Nat.le_refl _)]
      rw [hfin] at hbd
      obtain ⟨OUT, hO⟩ : ∃ O, O = rows.flatMap rowF := ⟨_, rfl⟩
      rw [← hO] at hbd
      have HO := Lib.hid hO
      have HB := Lib.hid hbd
      clear hfin hbd hO
      go_wp2_with fail
      refine (bld_string W.heap.size W.heap.size OUT wr HB.out hx.size).mono ?_
      rintro e w2 ⟨rfl, hlo, hk2⟩
      go_wp2_with fail
      go_ret2
      exact ⟨by rw [← HO.out]; rfl, hx1.trans (Below.trans hx hlo)⟩
end Go.Proofs.YtapjhnlnfliljaaDoor
