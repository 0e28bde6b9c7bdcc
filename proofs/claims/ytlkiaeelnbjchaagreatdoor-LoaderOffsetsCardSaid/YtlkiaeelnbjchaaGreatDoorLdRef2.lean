/- Contract of the reference's Pieces. (Layer 27) -/
import Derived.Test.YtlkiaeelnbjchaaGreatDoorLdRef1
namespace Go.Proofs.YtlkiaeelnbjchaaGreatDoor
open Go.RowKit
open Go.Lib hiding intOf
set_option linter.unusedVariables false

set_option maxHeartbeats 4000000 in
set_option maxRecDepth 100000 in
theorem rpieces_any (A : Option Addr) (n cap arch : Nat) (rows : List ByteArray) (w : World) (ha : arch < 4294967296) (hl : Lst w A n cap (rows.map Value.string)) (hz : ∀ s ∈ rows, s.size ≤ 1000000000) (hN : (framesL rows arch).length ≤ 1000000) :
    Calls Tryz.prog 19 #[.slice A n cap, .int .u32 arch] w fun e w' => ∃ v, e = .returned v ∧ w'.ownsRow w.heap.size 38 4 v (framesL rows arch).length (cellsP (framesL rows arch)) ∧ Ext w w' := by
  obtain ⟨i0, hi0, hz0, hz1, hz2⟩ := info_parts plainInfo
  have hlen : n = rows.length := by rw [hl.len, List.length_map]
  have hroom := hl.room
  have hmax := hl.max
  unfold maxLen at hmax
  have HLN := Lib.hid hlen
  have HZ := Lib.hid hz
  have HNN := Lib.hid hN
  clear hlen hz hN
  go_enter Tryz.func19, Tryz.ntmps19
  go_wp2_with fail
  go_loopw [5, 6] (fun ov kv wr => ∃ k : Nat, kv = .int .i64 k ∧ k ≤ n ∧ wr.ownsRow w.heap.size 38 4 ov (framesL (rows.take k) arch).length (cellsP (framesL (rows.take k) arch)) ∧ Ext w wr) (fun _ kv _ => n - (intOf kv).toNat)
  case atStart => exact ⟨0, rfl, Nat.zero_le _, own_empty w _ _ _ (Nat.le_refl _), (Ext.refl _).alloc _⟩
  case round =>
    obtain ⟨k, rfl, hk, hown, hx⟩ := hrel
    have HO := Lib.hid hown
    clear hown
    by_cases hlt : k < n
    · obtain ⟨rb, off, rfl, hcl⟩ := hl.at_ (by omega)
      have hkl : k < rows.length := by have := HLN.out; omega
      obtain ⟨s, hs⟩ : ∃ s, s = rows[k] := ⟨_, rfl⟩
      have HC : Hid (∀ W, Ext w W → W.cell? ⟨rb, off + k, none⟩ = some (.string s)) := fun W hx => by
        have := hx.cell (hcl k (by rw [List.length_map]; exact hkl))
        rw [List.getElem_map, ← hs] at this
        exact this
      have hsz1 : s.size ≤ 1000000000 := HZ.out s (by rw [hs]; exact List.getElem_mem _)
      have HSU : Hid (framesL (rows.take (k + 1)) arch = framesL (rows.take k) arch ++ framesTo s.data.toList arch (s.size - 767)) := by
        show _ = _
        rw [framesL_succ rows arch k hkl, ← hs]; rfl
      have HPRE : Hid (∀ m, m ≤ s.size - 767 → (framesL (rows.take k) arch ++ framesTo s.data.toList arch m).length ≤ 1000000) := fun m hm => by
        refine Nat.le_trans ?_ HNN.out
        refine List.IsPrefix.length_le (List.IsPrefix.trans ?_ (framesL_pre rows arch (k + 1)))
        rw [HSU.out]
        exact List.prefix_append_right_inj _ |>.2 (framesTo_pre _ _ _ _ hm)
      have hc := HC.out wr hx
      clear hcl hs
      generalize framesL (rows.take k) arch = L0 at *
      go_wp2_with fail
      go_loopw [5, 7] (fun ov iv wr => ∃ i : Nat, iv = .int .i64 i ∧ i ≤ s.size - 767 ∧ wr.ownsRow w.heap.size 38 4 ov (L0 ++ framesTo s.data.toList arch i).length (cellsP (L0 ++ framesTo s.data.toList arch i)) ∧ Ext w wr) (fun _ iv _ => s.size - 767 - (intOf iv).toNat)
      case atStart => exact ⟨0, rfl, Nat.zero_le _, by show World.ownsRow _ _ _ _ _ _ _; simp only [framesTo, List.range_zero, List.flatMap_nil, List.append_nil]; exact HO.out, hx⟩
      case round =>
        clear hc hx HO
        obtain ⟨i, rfl, hi, hown, hx⟩ := hrel
        have HO := Lib.hid hown
        clear hown
        have hc := HC.out wr hx
        by_cases hlt2 : i + 768 ≤ s.size
        · have hPl := fun W => ripl_any s i W (by unfold maxLen; omega) (by omega)
          have hsu := framesTo_succ s.data.toList arch i
          have hle := HPRE.out i hi
          by_cases hp : isPl s.data.toList i = true
          rotate_left
          · rw [Bool.not_eq_true] at hp
            rw [hp] at hPl
            have hfa : frameAt s.data.toList arch i = [] := by unfold frameAt; rw [hp]; rfl
            rw [hfa, List.append_nil] at hsu
            have HSU2 := Lib.hid hsu
            have HPL := Lib.hid hPl
            clear hsu hPl hp hfa
            go_wp2_with fail
            refine (HPL.out _).mono ?_
            rintro e w1 ⟨rfl, rfl⟩
            go_wp2_with fail
            go_roundw
            case rel => exact ⟨i + 1, by go_num, by omega, by rw [HSU2.out]; exact HO.out, hx⟩
            case measure => simp [intOf]; omega
          · rw [hp] at hPl
            have hfa : frameAt s.data.toList arch i = if (decodeA ((s.data.toList.drop (i + 16)).take 752)).2 = 0 ∧ (decodeA ((s.data.toList.drop (i + 16)).take 752)).1.arch = arch then [(decodeA ((s.data.toList.drop (i + 16)).take 752)).1] else [] := by unfold frameAt; rw [if_pos hp]
            rw [hfa] at hsu
            have hD := fun W => rdecode_any (BA ((s.data.toList.drop (i + 16)).take 752)) W (by rw [BA_size, List.length_take]; unfold maxLen; omega)
            rw [BA_data] at hD
            have e1 : s.extract (i + 16) (i + 768) = BA ((s.data.toList.drop (i + 16)).take 752) := by rw [ext_BA, show i + 768 - (i + 16) = 752 by omega]
            rw [← e1] at hD
            generalize decodeA ((s.data.toList.drop (i + 16)).take 752) = D at *
            obtain ⟨⟨pa, pi, pt, ps⟩, E⟩ := D
            simp only at hD hsu
            have HD : Hid (∀ W, Calls Tryz.prog 32 #[.string (s.extract (i + 16) (i + 768))] W fun e w' => e = .returned (.tuple #[.agg #[.int .u32 pa, .int .i64 pi, .int .i64 pt, .string ps], .int .i64 E]) ∧ Ext W w') := hD
            have HPL := Lib.hid hPl
            clear hD hPl hp hfa e1
            by_cases hE0 : E = 0
            rotate_left
            · rw [if_neg (fun h => hE0 h.1), List.append_nil] at hsu
              have HSU2 := Lib.hid hsu
              have hE0' : (E == 0) = false := by simpa using hE0
              clear hsu hE0
              go_wp2_with fail
              refine (HPL.out _).mono ?_
              rintro e w1 ⟨rfl, rfl⟩
              go_wp2_with fail
              refine (HD.out _).mono ?_
              rintro e w2 ⟨rfl, hx2⟩
              have hy : Ext _ (w2.alloc (.cells #[.int .u32 pa, .int .i64 pi, .int .i64 pt, .string ps] 38)) := hx2.alloc _
              go_wp2_with fail
              go_roundw
              case rel => exact ⟨i + 1, by go_num, by omega, by rw [HSU2.out]; exact own_ext HO.out hy, hx.trans hy⟩
              case measure => simp [intOf]; omega
            subst hE0
            by_cases har : pa = arch
            rotate_left
            · rw [if_neg (fun h => har h.2), List.append_nil] at hsu
              have HSU2 := Lib.hid hsu
              have har' : ((pa : Int) == (arch : Int)) = false := by rw [beq_eq_false_iff_ne]; omega
              clear hsu har
              go_wp2_with fail
              refine (HPL.out _).mono ?_
              rintro e w1 ⟨rfl, rfl⟩
              go_wp2_with fail
              refine (HD.out _).mono ?_
              rintro e w2 ⟨rfl, hx2⟩
              have hy : Ext _ (w2.alloc (.cells #[.int .u32 pa, .int .i64 pi, .int .i64 pt, .string ps] 38)) := hx2.alloc _
              go_wp2_with fail
              go_roundw
              case rel => exact ⟨i + 1, by go_num, by omega, by rw [HSU2.out]; exact own_ext HO.out hy, hx.trans hy⟩
              case measure => simp [intOf]; omega
            subst har
            rw [if_pos ⟨rfl, rfl⟩] at hsu
            have HSU2 := Lib.hid hsu
            clear hsu
            go_wp2_with fail
            refine (HPL.out _).mono ?_
            rintro e w1 ⟨rfl, rfl⟩
            go_wp2_with fail
            refine (HD.out _).mono ?_
            rintro e w2 ⟨rfl, hx2⟩
            have hy : Ext _ (w2.alloc (.cells #[.int .u32 pa, .int .i64 pi, .int .i64 pt, .string ps] 38)) := hx2.alloc _
            have hx := hx.trans hy
            have HO := Lib.hid (own_ext HO.out hy)
            have hq : (pa : Int) = pa := rfl
            have heq : ((pa : Int) == (pa : Int)) = true := beq_self_eq_true _
            have hi' := hi
            have hi := hi0
            obtain ⟨e0, e1, e2, e3, -⟩ := four (show Blk (w2.alloc (.cells #[.int .u32 pa, .int .i64 pi, .int .i64 pt, .string ps] 38)) w2.heap.size 38 [.int .u32 pa, .int .i64 pi, .int .i64 pt, .string ps] from (by show (w2.heap.push _)[w2.heap.size]? = _; simp))
            have HY := Lib.hid hy
            clear hy hx2
            go_wp2_with (at_builtin; refine wpList_append_own _ rfl (.tmp 55) (.tmp 57) _ rfl w.heap.size 38 i0 _ 4 40 Tryz.underlying35 hi hz0 hz1 hz2 rfl (by omega) _ _ _ rfl (HO.out.alloc _) ⟨w2.heap.size + 1, 0, none⟩ 1 1 [.int .u32 pa, .int .i64 pi, .int .i64 pt, .string ps] rfl rfl ?c1 ?c2 ?c3 ?c4 ?c5 ?_)
            case c1 =>
              intro j u hu
              match j, hu with
              | 0, hu => simp at hu; subst hu; go_cell
              | 1, hu => simp at hu; subst hu; simp [Addr.add]
              | 2, hu => simp at hu; subst hu; simp [Addr.add]
              | 3, hu => simp at hu; subst hu; simp [Addr.add]
            case c2 =>
              intro u hu
              simp at hu
              rcases hu with rfl | rfl | rfl | rfl <;> rfl
            case c3 => unfold maxLen; omega
            case c4 => omega
            case c5 => (have hc5 := hx.size; try simp at hc5); simp; omega
            intro v' w2 hown2 hgr _
            have hx3 := (hx.alloc (.cells #[.int .u32 pa, .int .i64 pi, .int .i64 pt, .string ps] 38)).grown hgr (fun k hk => (HO.out.lt k hk).1)
            have HO2 := Lib.hid hown2
            have HG := Lib.hid hgr
            clear hown2 hgr
            go_wp2_with fail
            go_roundw
            case rel => exact ⟨i + 1, by go_num, by omega, by rw [HSU2.out, ← List.append_assoc, List.length_append, List.length_append, cellsP_snoc]; exact HO2.out, hx3⟩
            case measure => simp [intOf]; omega
        · obtain rfl : i = s.size - 767 := by omega
          have hlt3 : ¬ ((s.size - 767 : Nat) : Int) + 768 ≤ s.size := by omega
          go_wp2_with fail
          go_roundw
          case rel => exact ⟨k + 1, by go_num, by omega, by rw [HSU.out]; exact HO.out, hx⟩
          case measure => simp [intOf]; omega
    · obtain rfl : k = n := by omega
      have hfull : rows.take k = rows := List.take_of_length_le (by rw [HLN.out]; exact Nat.le_refl _)
      rw [hfull] at HO
      clear hfull
      go_wp2_with fail
      go_ret
      exact ⟨_, rfl, HO.out, hx⟩
end Go.Proofs.YtlkiaeelnbjchaaGreatDoor
