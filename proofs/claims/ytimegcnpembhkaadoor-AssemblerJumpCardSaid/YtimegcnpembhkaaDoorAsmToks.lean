/- The contract of the assembler's tokens. -/
import Derived.Test.YtimegcnpembhkaaDoorAsmTok
namespace Go.Proofs.YtimegcnpembhkaaDoor
open Go.RowKit
open Go.Lib hiding intOf
set_option linter.unusedVariables false

theorem Tryd.infoTok : (Tryd.prog.info? 76).map (fun i => (i.zero, i.size, i.bytes)) = some (some (.agg #[.string ByteArray.empty, .int .i64 0]), 2, 24) := by kernel_rfl

/-- a token in memory -/
def tokH (t : Tok) : Hold := (BA t.1, (t.2 : Int))

theorem BA_nil {x : Bytes} (h : x = []) : (BA x).toList = [] := by rw [ByteArray.toList_eq]; exact h
theorem BA_ne {x : Bytes} (h : x ≠ []) : ((BA x).toList == []) = false := by
  rw [beq_eq_false_iff_ne, ByteArray.toList_eq]; exact h

set_option maxHeartbeats 2000000 in
set_option maxRecDepth 100000 in
theorem tokens_any (s : ByteArray) (w : World) (hs : s.size < 1000000000) (hE : Env w) :
    Calls Tryd.prog 27 #[.string s] w fun e w' => ∃ v, e = .returned v ∧ w'.ownsRow w.heap.size 76 2 v (toks s.data.toList).length (holdCells ((toks s.data.toList).map tokH)) ∧ Ext w w' := by
  obtain ⟨i0, hi, hz0, hz1, hz2⟩ := info_parts Tryd.infoTok
  have hsl : s.data.toList.length = s.size := rfl
  have hlen := toks_length s.data.toList
  have hcut := cutAt_count 10 s.data.toList []
  have hmem := cutAt_le 10 s.data.toList []
  have htk : toks s.data.toList = linesToks 1 (cutAt 10 [] s.data.toList) := rfl
  have hsp := split_any 10 s w (by omega) hE
  rw [hsl] at hlen hcut
  generalize toks s.data.toList = ts at *
  generalize hL : cutAt 10 [] s.data.toList = L at *
  have HS := Lib.hid hsp
  have HT := Lib.hid htk
  have HM := Lib.hid hmem
  clear hsp htk hmem hL hsl
  go_enter Tryd.func27, Tryd.ntmps27
  go_wp2_with fail
  refine HS.out.mono ?_
  rintro e w1 ⟨rfl, hl, hx⟩
  clear HS
  go_wp2_with fail
  go_loopw [3, 4, 5, 7, 11] (fun o a b c i wr => ∃ k : Nat, ∃ acc : List Tok, k ≤ L.length ∧ i = .int .i64 k ∧ acc ++ linesToks (k + 1) (L.drop k) = ts ∧ wr.ownsRow w.heap.size 76 2 o acc.length (holdCells (acc.map tokH)) ∧ Ext w wr ∧ Blk wr w.heap.size 9 (L.map fun l => .string (BA l))) (fun _ _ _ _ i _ => L.length - (intOf i).toNat)
  case atStart => exact ⟨0, [], Nat.zero_le _, rfl, HT.out.symm, World.ownsRow_nil _ _ _ _, hx, hl⟩
  case round =>
    obtain ⟨k, acc, hk, rfl, hacc, hown, hx2, hl⟩ := hrel
    have HA := Lib.hid hacc
    have HO := Lib.hid hown
    clear hacc hown
    by_cases hlt : k < L.length
    · have hc1 := hl.cell (i := k) (v := .string (BA L[k])) (by simp [hlt])
      have hd : Hid (acc ++ ((linePieces L[k]).map (·, k + 1) ++ linesToks (k + 2) (L.drop (k + 1))) = ts) := by
        show _ = _
        rw [← HA.out, linesToks_drop _ _ _ hlt]
      have hm1 := HM.out L[k] (List.getElem_mem hlt)
      have hE2 := hE.ext hx2
      have hcut1 := fun W (hW : Env W) => cut_any 35 (BA L[k]) W (by rw [BA_size]; simp at hm1; have : s.data.toList.length = s.size := rfl; omega) hW
      rw [BA_data] at hcut1
      unfold linePieces at hd
      have hm2 : (L[k].takeWhile (· ≠ 35)).length ≤ s.size := by
        have h1 : (L[k].takeWhile (· ≠ 35)).length ≤ L[k].length := (List.takeWhile_prefix _).length_le
        simp at hm1
        have : s.data.toList.length = s.size := rfl
        omega
      generalize L[k] = ln at *
      generalize ln.takeWhile (· ≠ 35) = q at *
      have hsp2 := fun W (hW : Env W) => split_any 32 (BA q) W (by rw [BA_size]; omega) hW
      rw [BA_data] at hsp2
      have hqc := cutAt_count 32 q []
      generalize cutAt 32 [] q = P at *
      have H1 := Lib.hid hcut1
      have H2 := Lib.hid hsp2
      clear hcut1 hsp2 hm1
      go_wp2_with fail
      refine (H1.out _ hE2).mono ?_
      rintro e w3 ⟨x, y, rfl, hx3⟩
      go_wp2_with fail
      refine (H2.out _ (hE2.ext hx3)).mono ?_
      rintro e w4 ⟨rfl, hl2, hx4⟩
      have hx34 := hx3.trans hx4
      have hl4 := hl.ext hx34
      have hx24 := hx2.trans hx34
      have hown4 := own_ext HO.out hx34
      have HO4 := Lib.hid hown4
      clear hown4 HO
      obtain ⟨wo, rfl⟩ : ∃ wo : World, wo = wr := ⟨_, rfl⟩
      go_wp2_with fail
      go_loopw [3, 7, 25] (fun o c j wr => ∃ m : Nat, ∃ ac2 : List Tok, m ≤ P.length ∧ j = .int .i64 m ∧ ac2 ++ ((((P.drop m).filter (· ≠ [])).map (·, k + 1)) ++ linesToks (k + 2) (L.drop (k + 1))) = ts ∧ wr.ownsRow w.heap.size 76 2 o ac2.length (holdCells (ac2.map tokH)) ∧ Ext w wr ∧ Blk wr w.heap.size 9 (L.map fun l => .string (BA l)) ∧ Blk wr w3.heap.size 9 (P.map fun l => .string (BA l))) (fun _ _ j _ => P.length - (intOf j).toNat)
      case atStart => exact ⟨0, acc, Nat.zero_le _, rfl, hd.out, HO4.out, hx24, hl4, hl2⟩
      case round =>
        obtain ⟨m, ac2, hm, rfl, hac2, hown, hx5, hl5, hl6⟩ := hrel
        have HO := Lib.hid hown
        by_cases hlm : m < P.length
        · have hc3 := hl6.cell (i := m) (v := .string (BA P[m])) (by simp [hlm])
          have hst : (P.drop m).filter (· ≠ []) = (if P[m] = [] then [] else [P[m]]) ++ (P.drop (m + 1)).filter (· ≠ []) := by
            rw [List.drop_eq_getElem_cons hlm, List.filter_cons]
            by_cases h : P[m] = [] <;> simp [h]
          rw [hst] at hac2
          generalize P[m] = pc at *
          have HA2 := Lib.hid hac2
          clear hac2 hst hown
          by_cases hpc : pc = []
          · have h0 := BA_nil hpc
            have ha : Hid (ac2 ++ ((((P.drop (m + 1)).filter (· ≠ [])).map (·, k + 1)) ++ linesToks (k + 2) (L.drop (k + 1))) = ts) := by
              show _ = _
              rw [← HA2.out, if_pos hpc]; rfl
            generalize BA pc = z at *
            clear hpc HA2
            go_wp2_with fail
            go_roundw
            case rel => exact ⟨m + 1, ac2, by omega, by go_num, ha.out, HO.out, hx5, hl5, hl6⟩
            case measure => simp [intOf]; omega
          · have h0 := BA_ne hpc
            have ha : Hid ((ac2 ++ [(pc, k + 1)]) ++ ((((P.drop (m + 1)).filter (· ≠ [])).map (·, k + 1)) ++ linesToks (k + 2) (L.drop (k + 1))) = ts) := by
              show _ = _
              rw [← HA2.out, if_neg hpc]; simp
            have hle : ac2.length + 1 ≤ s.size := by
              have := congrArg List.length ha.out
              simp at this
              omega
            have hcell : Hid (holdCells ((ac2 ++ [(pc, k + 1)]).map tokH) = holdCells (ac2.map tokH) ++ [.string (BA pc), .int .i64 ((k : Int) + 1)]) := by
              show _ = _
              rw [List.map_append, List.map_cons, List.map_nil, holdCells_snoc]
              rfl
            generalize BA pc = z at *
            clear hpc HA2
            go_wp2_with (at_builtin; refine wpList_append_own _ rfl (.tmp 31) (.tmp 36) _ rfl w.heap.size 76 i0 _ 2 24 Tryd.underlying55 hi hz0 hz1 hz2 rfl (by omega) _ _ _ rfl (HO.out.alloc _) ⟨wr.heap.size, 0, none⟩ 1 1 [.string z, .int .i64 ((k : Int) + 1)] rfl rfl ?c1 ?c2 ?c3 ?c4 ?c5 ?_)
            case c1 =>
              intro j u hu
              match j, hu with
              | 0, hu => simp at hu; subst hu; go_cell
              | 1, hu => simp at hu; subst hu; simp [Addr.add]
            case c2 =>
              intro u hu
              simp at hu
              rcases hu with rfl | rfl <;> rfl
            case c3 => unfold maxLen; omega
            case c4 => omega
            case c5 => (have hc5 := hx5.size; try simp at hc5); simp; omega
            intro v' w2 hown2 hgr _
            have hx3 := (hx5.alloc (.cells #[.string z, .int .i64 ((k : Int) + 1)] 76)).grown hgr (fun k hk => (HO.out.lt k hk).1)
            have HO2 := Lib.hid hown2
            have HG := Lib.hid hgr
            clear hown2 hgr
            go_wp2_with fail
            go_roundw
            case rel =>
              refine ⟨m + 1, _, by omega, by go_num, ha.out, ?_, hx3, ?_, ?_⟩
              · rw [hcell.out, List.length_append]
                exact HO2.out
              · exact (hl5.alloc _).grown (HO.out.alloc _) (by decide) HG.out
              · exact (hl6.alloc _).grown (HO.out.alloc _) (by decide) HG.out
            case measure => simp [intOf]; omega
        · obtain rfl : m = P.length := by omega
          have ha : Hid (ac2 ++ linesToks (k + 2) (L.drop (k + 1)) = ts) := by
            show _ = _
            rw [← hac2, List.drop_length]; rfl
          clear hac2 hown
          go_wp2_with fail
          go_roundw
          case rel => exact ⟨k + 1, ac2, by omega, by go_num, ha.out, HO.out, hx5, hl5⟩
          case measure => simp [intOf]; omega
    · obtain rfl : k = L.length := by omega
      have ha : Hid (acc = ts) := by
        show _ = _
        have := HA.out
        rw [List.drop_length] at this
        simpa [linesToks] using this
      go_wp2_with fail
      go_ret
      exact ⟨_, rfl, by rw [← ha.out]; exact HO.out, hx2⟩
end Go.Proofs.YtimegcnpembhkaaDoor
