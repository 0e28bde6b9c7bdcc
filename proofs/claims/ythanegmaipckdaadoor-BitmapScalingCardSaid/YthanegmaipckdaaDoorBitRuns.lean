/- The runs of a string; the contract of bitmap's iterator. -/
import Derived.Test.YthanegmaipckdaaDoorRangeBox
import Derived.Test.YthanegmaipckdaaDoorBitPlain
import Derived.Test.YthanegmaipckdaaDoorAsmLib
import Derived.Shelf.Abstract
import Derived.Shelf.RegionOpen
import Derived.WalkKit
import Derived.OwnWalkIn
import Derived.TacticsInMore
import Derived.LoopNIn
import Derived.LoopIn
import Derived.Sort.QuietIn
namespace Go.Proofs.YthanegmaipckdaaDoor
open Go.RowKit Go.Shelf
open Go.Lib hiding intOf
set_option linter.unusedVariables false
attribute [local go_sem] Oper.semAt_some

def encR (x : Nat × UInt8) : Array Value := #[.int .i64 (x.1 : Int), .int .u8 (x.2.toNat : Int)]
def leftIn (bx : Nat) (w : World) : Nat := match w.heap[bx]? with
  | some (.cells cs _ _) => match cs[0]? with
    | some (Value.string q) => q.size
    | _ => 0
  | _ => 0

theorem take_rep (q : ByteArray) (n : Nat) (h0 : 0 < q.size) (hn : n < q.size) (ht : q.data.toList.take n = List.replicate n q[0]) (he : q[n] = q[0]) : q.data.toList.take (n + 1) = List.replicate (n + 1) q[0] := by
  rw [List.take_succ_eq_append_getElem (show n < q.data.toList.length from hn), ht, List.replicate_succ']
  congr 2

theorem take_one (q : ByteArray) (h : 0 < q.size) : q.data.toList.take 1 = List.replicate 1 q[0] := by
  have e : q.data.toList = q[0] :: q.data.toList.drop 1 := List.drop_eq_getElem_cons (show 0 < q.data.toList.length from h)
  rw [e]
  rfl

set_option maxHeartbeats 4000000 in
set_option maxRecDepth 100000 in
theorem runs_seq (s : ByteArray) (bx : Nat) (w : World) (hs : s.size ≤ 1000000000) (hbx : w.heap[bx]? = some (.cells #[.string s] 9 (0, 0))) (n : Nat) :
    SeqBox Fence.wide n Tryd.prog 38 #[.pointer (some ⟨bx, 0, none⟩)] encR bx (runsB s.data.toList) w := by
  intro l J W hW hA hS hY h0
  have hlt : bx < w.heap.size := (Array.getElem?_eq_some_iff.1 hbx).1
  have hb0 : W.heap[bx]? = some (.cells #[.string s] 9 (0, 0)) := (hW.block bx hlt).trans hbx
  have hJd : ∀ pre W k, J pre W → J pre (W.drewN k) := fun pre W k h => hA pre W (W.drewN k) none h ⟨rfl, rfl, rfl, Nat.le_refl _, fun _ _ _ => rfl⟩ (fun r e => by cases e)
  refine callsIn_of_wp Tryd.func38 rfl trivial ?_ rfl
  simp only [Tryd.ntmps38, List.size_toArray, List.length_cons, List.length_nil, Nat.reduceAdd, Nat.reduceSub, Array.replicate_succ, Array.replicate_zero, List.push_toArray, List.append_toArray, List.nil_append, List.cons_append]
  gi_wp2
  gi_loopw [3] (fun nv wr => ∃ (pre : List (Nat × UInt8)) (q : ByteArray), q.size ≤ 1000000000 ∧ pre ++ runsB q.data.toList = runsB s.data.toList ∧ wr.heap[bx]? = some (.cells #[.string q] 9 (0, 0)) ∧ J pre wr) (fun _ wr => leftIn bx wr)
  case atStart => exact ⟨[], s, hs, rfl, hb0, h0⟩
  case round =>
    obtain ⟨pre, q, hq, hru, hb, hJ⟩ := hrel
    have hcell : wr.cell? ⟨bx, 0, none⟩ = some (.string q) := by simp [World.cell?, show wr.heap[bx]? = _ from hb]
    by_cases hq0 : q.size = 0
    · have h1 : q.toList = [] := by rw [ByteArray.toList_eq]; exact List.eq_nil_of_length_eq_zero hq0
      have hfin : Hid (pre = runsB s.data.toList) := by
        show _ = _
        rw [← hru, List.eq_nil_of_length_eq_zero (show q.data.toList.length = 0 from hq0)]
        simp [runsB]
      clear hru hq0
      gi_wp2
      go_end0
      exact ⟨⟨_, rfl⟩, by rw [← hfin.out]; exact hJ⟩
    · have hpos : 0 < q.size := by omega
      have h1 : (q.toList == []) = false := by
        rw [beq_eq_false_iff_ne, ByteArray.toList_eq]
        intro h
        exact hq0 (by have : q.size = q.data.toList.length := rfl; rw [this, h]; rfl)
      have h1' : ¬ (q.toList = []) := by simpa using h1
      have HRU := Lib.hid hru
      have ht1 := Lib.hid (take_one q hpos)
      clear hru hq0
      gi_wp2
      gi_loopw [3] (fun nv wr => ∃ k : Nat, 1 ≤ k ∧ k ≤ q.size ∧ nv = .int .i64 k ∧ q.data.toList.take k = List.replicate k q[0] ∧ wr.heap[bx]? = some (.cells #[.string q] 9 (0, 0)) ∧ J pre wr) (fun nv _ => q.size - (intOf nv).toNat)
      case atStart => exact ⟨1, Nat.le_refl _, by omega, rfl, ht1.out, hb, hJ⟩
      case round =>
        obtain ⟨k, hk1, hk, rfl, htk, hb2, hJ2⟩ := hrel
        have hcell2 : wr.cell? ⟨bx, 0, none⟩ = some (.string q) := by simp [World.cell?, show wr.heap[bx]? = _ from hb2]
        have hJ3 := fun d => hJd _ _ d hJ2
        have hb3 : ∀ d, (wr.drewN d).heap[bx]? = some (.cells #[.string q] 9 (0, 0)) := fun _ => hb2
        have HTK := Lib.hid htk
        clear htk
        by_cases hlt2 : k < q.size
        · by_cases he : q[k] = q[0]
          · have he2 : ((((q[k]).toNat : Nat) : Int) == ((q[0].toNat : Nat) : Int)) = true := by rw [he]; simp
            have hnx := Lib.hid (take_rep q k hpos hlt2 HTK.out he)
            clear he
            gi_wp2
            gi_quiet (fail)
            gi_wp2
            go_roundw
            case rel => exact ⟨k + 1, by omega, by omega, by go_num, hnx.out, hb3 _, hJ3 _⟩
            case measure => simp [intOf]; omega
          · have he2 : ((((q[k]).toNat : Nat) : Int) == ((q[0].toNat : Nat) : Int)) = false := by
              rw [beq_eq_false_iff_ne]
              intro e
              exact he (UInt8.toNat_inj.1 (by omega))
            have hrest : Hid (runsB q.data.toList = (k, q[0]) :: runsB (q.extract k q.size).data.toList) := by
              show _ = _
              have e1 : q.data.toList = List.replicate k q[0] ++ q.data.toList.drop k := by rw [← HTK.out, List.take_append_drop]
              have e2 : (q.extract k q.size).data.toList = q.data.toList.drop k := by
                simp only [ByteArray.data_extract, Array.toList_extract, List.extract_eq_take_drop]
                rw [List.take_of_length_le]
                rw [List.length_drop]
                exact Nat.le_refl _
              rw [e2]
              conv => lhs; rw [e1]
              refine runsB_step _ _ _ hk1 ?_
              intro x r e
              have h3 : q.data.toList.drop k = q[k] :: q.data.toList.drop (k + 1) := List.drop_eq_getElem_cons (show k < q.data.toList.length from hlt2)
              rw [h3] at e
              injection e with e4 _
              rw [← e4]
              exact he
            have hsz : (q.extract k q.size).size < q.size := by rw [ByteArray.size_extract]; omega
            have hnew : Hid ((pre ++ [(k, q[0])]) ++ runsB (q.extract k q.size).data.toList = runsB s.data.toList) := by
              show _ = _
              rw [← HRU.out, hrest.out]
              simp
            gi_wp2
            gi_quiet (fail)
            rename_i nq
            obtain ⟨fn, tmps, assign, body, hy, hR⟩ := hY pre (k, q[0]) (wr.drewN nq) ⟨_, hnew.out⟩ (hJ3 _)
            dsimp only [encR] at hy
            gi_wp2
            first | refine hR.mono ?_ | refine ⟨fun h => (by cases h), hR.mono ?_⟩
            rintro e W3 ⟨rfl, hJ4, hb4⟩
            have hb5 : W3.heap[bx]? = some (.cells #[.string q] 9 (0, 0)) := hb4.trans (hb3 _)
            have hc5 : W3.cell? ⟨bx, 0, none⟩ = some (.string q) := by simp [World.cell?, show W3.heap[bx]? = _ from hb5]
            have hf5 : W3.frozen? ⟨bx, 0, none⟩ = false := by simp [World.frozen?, show W3.heap[bx]? = _ from hb5]
            gi_wp2
            go_roundw
            case rel => exact ⟨pre ++ [(k, q[0])], q.extract k q.size, by omega, hnew.out, Boxed.set _ hb5, hS _ _ _ hJ4⟩
            case measure =>
              have hb6 : (W3.setCell ⟨bx, 0, none⟩ (.string (q.extract k q.size))).heap[bx]? = some (.cells #[.string (q.extract k q.size)] 9 (0, 0)) := Boxed.set _ hb5
              unfold leftIn
              rw [hb6, hb]
              exact hsz
        · obtain rfl : k = q.size := by omega
          have hrest : Hid (runsB q.data.toList = (q.size, q[0]) :: runsB ByteArray.empty.data.toList) := by
            show _ = _
            have e1 : q.data.toList = List.replicate q.size q[0] ++ q.data.toList.drop q.size := by rw [← HTK.out, List.take_append_drop]
            have e2 : ByteArray.empty.data.toList = q.data.toList.drop q.size := by
              rw [List.drop_of_length_le (show q.data.toList.length ≤ q.size from Nat.le_refl _)]; rfl
            rw [e2]
            conv => lhs; rw [e1]
            refine runsB_step _ _ _ hk1 ?_
            intro x r e
            rw [List.drop_of_length_le (show q.data.toList.length ≤ q.size by have : q.data.toList.length = q.size := rfl; omega)] at e
            cases e
          have hsz : ByteArray.empty.size < q.size := hpos
          have hnew : Hid ((pre ++ [(q.size, q[0])]) ++ runsB ByteArray.empty.data.toList = runsB s.data.toList) := by
            show _ = _
            rw [← HRU.out, hrest.out]
            simp
          gi_wp2
          gi_quiet (fail)
          rename_i nq
          obtain ⟨fn, tmps, assign, body, hy, hR⟩ := hY pre (q.size, q[0]) (wr.drewN nq) ⟨_, hnew.out⟩ (hJ3 _)
          dsimp only [encR] at hy
          gi_wp2
          first | refine hR.mono ?_ | refine ⟨fun h => (by cases h), hR.mono ?_⟩
          rintro e W3 ⟨rfl, hJ4, hb4⟩
          have hb5 : W3.heap[bx]? = some (.cells #[.string q] 9 (0, 0)) := hb4.trans (hb3 _)
          have hc5 : W3.cell? ⟨bx, 0, none⟩ = some (.string q) := by simp [World.cell?, show W3.heap[bx]? = _ from hb5]
          have hf5 : W3.frozen? ⟨bx, 0, none⟩ = false := by simp [World.frozen?, show W3.heap[bx]? = _ from hb5]
          gi_wp2
          go_roundw
          case rel => exact ⟨pre ++ [(q.size, q[0])], ByteArray.empty, Nat.zero_le _, hnew.out, Boxed.set _ hb5, hS _ _ _ hJ4⟩
          case measure =>
            have hb6 : (W3.setCell ⟨bx, 0, none⟩ (.string ByteArray.empty)).heap[bx]? = some (.cells #[.string ByteArray.empty] 9 (0, 0)) := Boxed.set _ hb5
            unfold leftIn
            rw [hb6, hb]
            exact hsz
end Go.Proofs.YthanegmaipckdaaDoor
