/- The frames of pieces; the contract of the loader's iterator. (Layer 27) -/
import Derived.Test.YtjmglbppmolipaaGreatDoorLdMark
import Derived.RangeFuncNested
import Derived.RangeFuncBound
import Derived.RangeFuncCalls
import Derived.RangeFuncLeaves
import Derived.RangeFuncWrites
import Derived.RangeFuncKeeps
import Derived.RangeFuncBox
import Derived.Shelf.Abstract
import Derived.Shelf.RegionOpen
import Derived.OwnWalkIn
import Derived.TacticsInMore
import Derived.LoopNIn
import Derived.LoopIn
import Derived.Sort.QuietIn
namespace Go.Proofs.YtjmglbppmolipaaGreatDoor
open Go.RowKit Go.Shelf
open Go.Lib hiding intOf
set_option linter.unusedVariables false
attribute [local go_sem] Oper.semAt_some

/-- the frame at a place of a piece -/
def frameAt (s : List UInt8) (arch i : Nat) : List Pc :=
  if isPl s i = true then if (decodeA ((s.drop (i + 16)).take 752)).2 = 0 ∧ (decodeA ((s.drop (i + 16)).take 752)).1.arch = arch then [(decodeA ((s.drop (i + 16)).take 752)).1] else [] else []
def framesTo (s : List UInt8) (arch n : Nat) : List Pc := (List.range n).flatMap (frameAt s arch)
def framesP (arch : Nat) (s : ByteArray) : List Pc := framesTo s.data.toList arch (s.size - 767)
def framesL (rows : List ByteArray) (arch : Nat) : List Pc := rows.flatMap (framesP arch)
theorem framesTo_succ (s : List UInt8) (arch n : Nat) : framesTo s arch (n + 1) = framesTo s arch n ++ frameAt s arch n := by
  unfold framesTo
  rw [List.range_succ, List.flatMap_append]
  simp
theorem framesL_succ (rows : List ByteArray) (arch k : Nat) (h : k < rows.length) : framesL (rows.take (k + 1)) arch = framesL (rows.take k) arch ++ framesP arch rows[k] := by
  unfold framesL
  rw [List.take_succ_eq_append_getElem h, List.flatMap_append]
  simp
theorem framesTo_pre (s : List UInt8) (arch : Nat) : ∀ n m, n ≤ m → framesTo s arch n <+: framesTo s arch m
  | n, m, h => by
    obtain ⟨d, rfl⟩ : ∃ d, m = n + d := ⟨m - n, by omega⟩
    unfold framesTo
    rw [List.range_add, List.flatMap_append]
    exact List.prefix_append _ _
theorem framesL_pre (rows : List ByteArray) (arch k : Nat) : framesL (rows.take k) arch <+: framesL rows arch := by
  unfold framesL
  conv => rhs; rw [← List.take_append_drop k rows, List.flatMap_append]
  exact List.prefix_append _ _
/-- valid frames of an archive -/
abbrev GP (arch : Nat) : Type := {p : Pc // p.arch = arch ∧ checkZ p.index p.total p.text = 0}
def encP {arch : Nat} (x : GP arch) : Array Value := #[x.1.val]
theorem decode_good {c : List UInt8} (h : (decodeA c).2 = 0) : checkZ (decodeA c).1.index (decodeA c).1.total (decodeA c).1.text = 0 := by
  revert h
  unfold decodeA
  split
  · exact fun h => by cases h
  split
  · exact fun h => by cases h
  split
  · exact fun h => by cases h
  unfold textA
  split
  · unfold fieldsA
    split
    · exact fun h => by cases h
    split
    · exact fun h => by cases h
    split
    · rename_i h1
      exact fun h => absurd h h1
    · rename_i h1
      intro _
      exact Decidable.of_not_not h1
  · exact fun h => by cases h
/-- what a round may not touch -/
def KpL (m b1 b2 : Nat) (A B : World) : Prop := Below m A B ∧ B.heap[b1]? = A.heap[b1]? ∧ B.heap[b2]? = A.heap[b2]?
theorem grown_ext {W W' : World} (h : Ext W W') : W.grownBy W' none := ⟨h.os, h.tape, h.output, h.size, fun k hk _ => h.block k hk⟩

set_option maxHeartbeats 4000000 in
set_option maxRecDepth 100000 in
theorem frames_seq (w0 w : World) (b1 b2 n cap arch : Nat) (A : Option Addr) (rows : List ByteArray) (hE : Env w0) (hm : Ext w0 w) (ha : arch < 4294967296)
    (h1 : w.heap[b1]? = some (.cells #[.slice A n cap] 22 (0, 0))) (h2 : w.heap[b2]? = some (.cells #[.int .u32 arch] 23 (0, 0)))
    (hl : Lst w0 A n cap (rows.map Value.string)) (hz : ∀ s ∈ rows, s.size ≤ 1000000000) (d : Nat) :
    SeqStopsK Fence.wide d Tryz.prog 64 #[.pointer (some ⟨b1, 0, none⟩), .pointer (some ⟨b2, 0, none⟩)] (encP (arch := arch)) (KpL w0.heap.size b1 b2)
      (fun xs => xs.map (·.1) = framesL rows arch) (fun pre => pre.map (·.1) <+: framesL rows arch) (framesL rows arch).length w := by
  intro l J Jx W hW hA hAx hY h0
  have hlt1 : b1 < w.heap.size := (Array.getElem?_eq_some_iff.1 h1).1
  have hlt2 : b2 < w.heap.size := (Array.getElem?_eq_some_iff.1 h2).1
  have g1 : W.heap[b1]? = some (.cells #[.slice A n cap] 22 (0, 0)) := (hW.block b1 hlt1).trans h1
  have g2 : W.heap[b2]? = some (.cells #[.int .u32 arch] 23 (0, 0)) := (hW.block b2 hlt2).trans h2
  have HJ : Hid (∀ pre W1 W2, W.heap.size ≤ W1.heap.size → J pre W1 → Ext W1 W2 → J pre W2) := fun pre W1 W2 _ h hx => hA pre W1 W2 none h (grown_ext hx) (fun r e => by cases e)
  have HJX : Hid (∀ pre W1 W2, W.heap.size ≤ W1.heap.size → Jx pre W1 → Ext W1 W2 → Jx pre W2) := fun pre W1 W2 _ h hx => hAx pre W1 W2 none h (grown_ext hx) (fun r e => by cases e)
  have hx0 : Ext w0 W := hm.trans hW
  have hlen : n = rows.length := by rw [hl.len, List.length_map]
  have hroom := hl.room
  have hmax := hl.max
  unfold maxLen at hmax
  have HLN := Lib.hid hlen
  have HZ := Lib.hid hz
  clear hlen hz hA hAx
  have c1 : W.cell? ⟨b1, 0, none⟩ = some (.slice A n cap) := by simp [World.cell?, show W.heap[b1]? = _ from g1]
  refine callsIn_of_wp Tryz.func64 rfl trivial ?_ rfl
  simp only [Tryz.ntmps64, List.size_toArray, List.length_cons, List.length_nil, Nat.reduceAdd, Nat.reduceSub, Array.replicate_succ, Array.replicate_zero, List.push_toArray, List.append_toArray, List.nil_append, List.cons_append]
  gi_wp2
  gi_loopw [11] (fun nv wr => ∃ (k : Nat) (pre : List (GP arch)), nv = .int .i64 k ∧ k ≤ n ∧ Hid (pre.map (·.1) = framesL (rows.take k) arch) ∧ Ext w0 wr ∧ W.heap.size ≤ wr.heap.size ∧ wr.heap[b1]? = some (.cells #[.slice A n cap] 22 (0, 0)) ∧ wr.heap[b2]? = some (.cells #[.int .u32 arch] 23 (0, 0)) ∧ J pre wr) (fun nv _ => n - (intOf nv).toNat)
  case atStart => exact ⟨0, [], rfl, Nat.zero_le _, rfl, hx0, Nat.le_refl _, g1, g2, h0⟩
  case round =>
    obtain ⟨k, pre, rfl, hk, HP, hx, hsz, k1, k2, hJ⟩ := hrel
    by_cases hlt : k < n
    · obtain ⟨rb, off, hA0, hcl⟩ := hl.at_ (by omega)
      have hkl : k < rows.length := by have := HLN.out; omega
      obtain ⟨s, hs⟩ : ∃ s, s = rows[k] := ⟨_, rfl⟩
      have hc : wr.cell? ⟨rb, off + k, none⟩ = some (.string s) := by
        have := hx.cell (hcl k (by rw [List.length_map]; exact hkl))
        rw [List.getElem_map, ← hs] at this
        exact this
      have hsz1 : s.size ≤ 1000000000 := HZ.out s (by rw [hs]; exact List.getElem_mem _)
      have HSU : Hid (framesL (rows.take (k + 1)) arch = framesL (rows.take k) arch ++ framesTo s.data.toList arch (s.size - 767)) := by
        show _ = _
        rw [framesL_succ rows arch k hkl, ← hs]; rfl
      have HPRE : Hid (∀ m, m ≤ s.size - 767 → framesL (rows.take k) arch ++ framesTo s.data.toList arch m <+: framesL rows arch) := fun m hm => by
        refine List.IsPrefix.trans ?_ (framesL_pre rows arch (k + 1))
        rw [HSU.out]
        exact List.prefix_append_right_inj _ |>.2 (framesTo_pre _ _ _ _ hm)
      subst hA0
      clear hcl hs
      gi_wp2
      gi_loopw [6] (fun iv wr => ∃ (i : Nat) (pre : List (GP arch)), iv = .int .i64 i ∧ i ≤ s.size - 767 ∧ Hid (pre.map (·.1) = framesL (rows.take k) arch ++ framesTo s.data.toList arch i) ∧ Ext w0 wr ∧ W.heap.size ≤ wr.heap.size ∧ wr.heap[b1]? = some (.cells #[.slice (some ⟨rb, off, none⟩) n cap] 22 (0, 0)) ∧ wr.heap[b2]? = some (.cells #[.int .u32 arch] 23 (0, 0)) ∧ J pre wr) (fun iv _ => s.size - 767 - (intOf iv).toNat)
      case atStart => exact ⟨0, pre, rfl, Nat.zero_le _, by show _ = _; rw [HP.out]; simp [framesTo], hx, hsz, k1, k2, hJ⟩
      case round =>
        clear hc k1 k2 hJ HP hx hsz
        obtain ⟨i, pre, rfl, hi, HP, hx, hsz, k1, k2, hJ⟩ := hrel
        by_cases hlt2 : i + 768 ≤ s.size
        · have hPl := fun W => isPlain_any s i W (by unfold maxLen; omega) (by unfold maxLen; omega)
          have hsu := framesTo_succ s.data.toList arch i
          by_cases hp : isPl s.data.toList i = true
          rotate_left
          · rw [Bool.not_eq_true] at hp
            rw [hp] at hPl
            have hfa : frameAt s.data.toList arch i = [] := by unfold frameAt; rw [hp]; rfl
            rw [hfa, List.append_nil] at hsu
            have HSU2 := Lib.hid hsu
            have HPL := Lib.hid hPl
            clear hsu hPl hp hfa
            gi_wp2
            refine ⟨trivial, fun h => (by cases h), (callsIn_wide.2 (HPL.out _)).mono ?_⟩
            rintro e w1 ⟨rfl, rfl⟩
            gi_wp2
            go_roundw
            case rel => exact ⟨i + 1, pre, by go_num, by omega, by show _ = _; rw [HSU2.out]; exact HP.out, hx, hsz, k1, k2, hJ⟩
            case measure => simp [intOf]; omega
          · rw [hp] at hPl
            have hfa : frameAt s.data.toList arch i = if (decodeA ((s.data.toList.drop (i + 16)).take 752)).2 = 0 ∧ (decodeA ((s.data.toList.drop (i + 16)).take 752)).1.arch = arch then [(decodeA ((s.data.toList.drop (i + 16)).take 752)).1] else [] := by unfold frameAt; rw [if_pos hp]
            rw [hfa] at hsu
            have hD := fun W h => decode_any (BA ((s.data.toList.drop (i + 16)).take 752)) W (by rw [BA_size, List.length_take]; unfold maxLen; omega) h
            have hgd := decode_good (c := (s.data.toList.drop (i + 16)).take 752)
            rw [BA_data] at hD
            have e1 : s.extract (i + 16) (i + 768) = BA ((s.data.toList.drop (i + 16)).take 752) := by rw [ext_BA, show i + 768 - (i + 16) = 752 by omega]
            rw [← e1] at hD
            generalize decodeA ((s.data.toList.drop (i + 16)).take 752) = D at *
            obtain ⟨⟨pa, pi, pt, ps⟩, E⟩ := D
            simp only at hD hgd hsu
            have HD : Hid (∀ W, Env W → Calls Tryz.prog 65 #[.string (s.extract (i + 16) (i + 768))] W fun e w' => e = .returned (.tuple #[.agg #[.int .u32 pa, .int .i64 pi, .int .i64 pt, .string ps], .int .i64 E]) ∧ Ext W w') := hD
            have HPL := Lib.hid hPl
            clear hD hPl hp hfa e1
            have hEr := hE.ext hx
            by_cases hE0 : E = 0
            rotate_left
            · rw [if_neg (fun h => hE0 h.1), List.append_nil] at hsu
              have HSU2 := Lib.hid hsu
              have hE0' : (E == 0) = false := by simpa using hE0
              clear hsu hgd hE0
              gi_wp2
              refine ⟨trivial, fun h => (by cases h), (callsIn_wide.2 (HPL.out _)).mono ?_⟩
              rintro e w1 ⟨rfl, rfl⟩
              gi_wp2
              refine ⟨trivial, fun h => (by cases h), (callsIn_wide.2 (HD.out _ hEr)).mono ?_⟩
              rintro e w2 ⟨rfl, hx2⟩
              have hy : Ext _ (w2.alloc (.cells #[.int .u32 pa, .int .i64 pi, .int .i64 pt, .string ps] 57)) := hx2.alloc _
              gi_wp2
              refine ⟨fun f hf => (by cases hf), ?_⟩
              gi_wp2
              go_roundw
              case rel => exact ⟨i + 1, pre, by go_num, by omega, by show _ = _; rw [HSU2.out]; exact HP.out, hx.trans hy, Nat.le_trans hsz hy.size, (hy.block b1 (Array.getElem?_eq_some_iff.1 k1).1).trans k1, (hy.block b2 (Array.getElem?_eq_some_iff.1 k2).1).trans k2, HJ.out _ _ _ hsz hJ hy⟩
              case measure => simp [intOf]; omega
            subst hE0
            by_cases har : pa = arch
            rotate_left
            · rw [if_neg (fun h => har h.2), List.append_nil] at hsu
              have HSU2 := Lib.hid hsu
              have har' : ((pa : Int) == (arch : Int)) = false := by rw [beq_eq_false_iff_ne]; omega
              clear hsu hgd har
              gi_wp2
              refine ⟨trivial, fun h => (by cases h), (callsIn_wide.2 (HPL.out _)).mono ?_⟩
              rintro e w1 ⟨rfl, rfl⟩
              gi_wp2
              refine ⟨trivial, fun h => (by cases h), (callsIn_wide.2 (HD.out _ hEr)).mono ?_⟩
              rintro e w2 ⟨rfl, hx2⟩
              have hy : Ext _ (w2.alloc (.cells #[.int .u32 pa, .int .i64 pi, .int .i64 pt, .string ps] 57)) := hx2.alloc _
              have q2 := (hy.block b2 (Array.getElem?_eq_some_iff.1 k2).1).trans k2
              have c2 : (w2.alloc (.cells #[.int .u32 pa, .int .i64 pi, .int .i64 pt, .string ps] 57)).cell? ⟨b2, 0, none⟩ = some (.int .u32 arch) := by unfold World.cell?; rw [show (w2.alloc (.cells #[.int .u32 pa, .int .i64 pi, .int .i64 pt, .string ps] 57)).heap[(⟨b2, 0, none⟩ : Addr).block]? = _ from q2]; rfl
              gi_wp2
              refine ⟨fun f hf => (by cases hf), ?_⟩
              gi_wp2
              go_roundw
              case rel => exact ⟨i + 1, pre, by go_num, by omega, by show _ = _; rw [HSU2.out]; exact HP.out, hx.trans hy, Nat.le_trans hsz hy.size, (hy.block b1 (Array.getElem?_eq_some_iff.1 k1).1).trans k1, q2, HJ.out _ _ _ hsz hJ hy⟩
              case measure => simp [intOf]; omega
            subst har
            rw [if_pos ⟨rfl, rfl⟩] at hsu
            have HGD := Lib.hid (hgd rfl)
            clear hgd
            have HSU2 := Lib.hid hsu
            clear hsu
            have hpm : Hid ((pre ++ [(⟨⟨pa, pi, pt, ps⟩, rfl, HGD.out⟩ : GP pa)]).map (·.1) = framesL (rows.take k) pa ++ framesTo s.data.toList pa (i + 1)) := by
              show _ = _
              rw [List.map_append, HP.out, HSU2.out, List.append_assoc]; rfl
            have hpx : Hid ((pre ++ [(⟨⟨pa, pi, pt, ps⟩, rfl, HGD.out⟩ : GP pa)]).map (·.1) <+: framesL rows pa) := by
              show _ <+: _
              rw [hpm.out]
              exact HPRE.out _ (by omega)
            have hln : Hid (pre.length < (framesL rows pa).length) := by
              have := hpx.out.length_le
              rw [List.length_map, List.length_append] at this
              exact this
            gi_wp2
            refine ⟨trivial, fun h => (by cases h), (callsIn_wide.2 (HPL.out _)).mono ?_⟩
            rintro e w1 ⟨rfl, rfl⟩
            gi_wp2
            refine ⟨trivial, fun h => (by cases h), (callsIn_wide.2 (HD.out _ hEr)).mono ?_⟩
            rintro e w2 ⟨rfl, hx2⟩
            have hy : Ext _ (w2.alloc (.cells #[.int .u32 pa, .int .i64 pi, .int .i64 pt, .string ps] 57)) := hx2.alloc _
            have q1 := (hy.block b1 (Array.getElem?_eq_some_iff.1 k1).1).trans k1
            have q2 := (hy.block b2 (Array.getElem?_eq_some_iff.1 k2).1).trans k2
            have c2 : (w2.alloc (.cells #[.int .u32 pa, .int .i64 pi, .int .i64 pt, .string ps] 57)).cell? ⟨b2, 0, none⟩ = some (.int .u32 pa) := by unfold World.cell?; rw [show (w2.alloc (.cells #[.int .u32 pa, .int .i64 pi, .int .i64 pt, .string ps] 57)).heap[(⟨b2, 0, none⟩ : Addr).block]? = _ from q2]; rfl
            have hJ2 := HJ.out _ _ _ hsz hJ hy
            obtain ⟨fn, tmps, assign, body, hyy, hR⟩ := hY pre ⟨⟨pa, pi, pt, ps⟩, rfl, HGD.out⟩ _ hJ2 hln.out
            dsimp only [encP, Pc.val] at hyy
            gi_wp2
            refine ⟨fun h => (by cases h), hR.mono ?_⟩
            rintro e W3 (⟨rfl, hJ4, hK4⟩ | ⟨rfl, hJ4⟩)
            · obtain ⟨hK5, hK6, hK7⟩ := hK4
              have hx3 : Ext w0 W3 := Below.trans (hx.trans hy) hK5
              gi_wp2
              go_roundw
              case rel => exact ⟨i + 1, pre ++ [⟨⟨pa, pi, pt, ps⟩, rfl, HGD.out⟩], by go_num, by omega, hpm, hx3, Nat.le_trans (Nat.le_trans hsz hy.size) hK5.size, hK6.trans q1, hK7.trans q2, hJ4⟩
              case measure => simp [intOf]; omega
            · gi_wp2
              refine bodyPost_ret (v := .tuple #[]) (by simp [results, Tryz.results64, go_sem]) rfl ?_
              exact ⟨⟨_, rfl⟩, .inr ⟨_, hpx.out, hJ4⟩⟩
        · obtain rfl : i = s.size - 767 := by omega
          have hfin : Hid (pre.map (·.1) = framesL (rows.take (k + 1)) arch) := by
            show _ = _
            rw [HP.out, HSU.out]
          clear HP
          have hlt3 : ¬ ((s.size - 767 : Nat) : Int) + 768 ≤ s.size := by omega
          gi_wp2
          go_roundw
          case rel => exact ⟨k + 1, pre, by go_num, by omega, hfin.out, hx, hsz, k1, k2, hJ⟩
          case measure => simp [intOf]; omega
    · obtain rfl : k = n := by omega
      have hfin : Hid (pre.map (·.1) = framesL rows arch) := by
        show _ = _
        rw [HP.out, List.take_of_length_le (by rw [HLN.out]; exact Nat.le_refl _)]
      clear HP
      gi_wp2
      go_end0
      exact ⟨⟨_, rfl⟩, .inl ⟨pre, hfin.out, hJ⟩⟩
end Go.Proofs.YtjmglbppmolipaaGreatDoor
