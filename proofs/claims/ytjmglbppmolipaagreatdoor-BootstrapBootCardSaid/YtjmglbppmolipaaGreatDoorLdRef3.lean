/- Contracts of the reference: Input, Great. (Layer 27) -/
import Derived.Test.YtjmglbppmolipaaGreatDoorLdInput
namespace Go.Proofs.YtjmglbppmolipaaGreatDoor
open Go.RowKit
open Go.Lib hiding intOf
set_option linter.unusedVariables false

set_option maxHeartbeats 4000000 in
set_option maxRecDepth 100000 in
theorem rinput_any (A : Option Addr) (n cap arch : Nat) (rows : List ByteArray) (w : World) (hl : Lst w A n cap (rows.map Value.string)) (hz : ∀ s ∈ rows, s.size ≤ 1000000000) (hN : (inputL rows arch).length ≤ 1000000) :
    Calls Tryz.prog 25 #[.slice A n cap, .int .u32 arch] w fun e w' => ∃ v, e = .returned v ∧ w'.ownsRow w.heap.size 23 1 v (inputL rows arch).length (u32s (inputL rows arch)) ∧ Ext w w' := by
  obtain ⟨i0, hi0, hz0, hz1, hz2⟩ := info_parts u32Info
  have hlen : n = rows.length := by rw [hl.len, List.length_map]
  have hroom := hl.room
  have hmax := hl.max
  unfold maxLen at hmax
  have HLN := Lib.hid hlen
  have HZ := Lib.hid hz
  have HNN := Lib.hid hN
  clear hlen hz hN
  go_enter Tryz.func25, Tryz.ntmps25
  go_wp2_with fail
  go_loopw [5, 6] (fun ov kv wr => ∃ k : Nat, kv = .int .i64 k ∧ k ≤ n ∧ wr.ownsRow w.heap.size 23 1 ov (inputL (rows.take k) arch).length (u32s (inputL (rows.take k) arch)) ∧ Ext w wr) (fun _ kv _ => n - (intOf kv).toNat)
  case atStart => exact ⟨0, rfl, Nat.zero_le _, by rw [show rows.take 0 = [] from List.take_zero]; exact own_one w _ _ _ (Nat.le_refl _), (Ext.refl _).alloc _⟩
  case round =>
    obtain ⟨k, rfl, hk, hown, hx⟩ := hrel
    have HO := Lib.hid hown
    clear hown
    by_cases hlt : k < n
    · obtain ⟨rb, off, rfl, hcl⟩ := hl.at_ (by omega)
      have hkl : k < rows.length := by have := HLN.out; omega
      obtain ⟨s, hs⟩ : ∃ s, s = rows[k] := ⟨_, rfl⟩
      have HC : Hid (∀ W, Ext w W → W.cell? ⟨rb, off + k, none⟩ = some (.string s)) := fun W hx => by
        have := hx.cell (hcl k (by rw [List.length_map]; exact hkl))
        rw [List.getElem_map, ← hs] at this
        exact this
      have hsz1 : s.size ≤ 1000000000 := HZ.out s (by rw [hs]; exact List.getElem_mem _)
      have hsu := inputL_succ rows arch k hkl
      rw [← hs] at hsu
      have hle := Nat.le_trans (inputL_le rows arch (k + 1)) HNN.out
      have hPl := fun W => ripl_any s 0 W (by unfold maxLen; omega) (by omega)
      have hc := HC.out wr hx
      clear hcl hs
      by_cases hp : isPl s.data.toList 0 = true
      · have hin : inputP s = [] := by unfold inputP; rw [if_pos hp]
        rw [hin, List.append_nil] at hsu
        rw [hp] at hPl
        have HSU := Lib.hid hsu
        have HPL := Lib.hid hPl
        clear hsu hPl hp hin hle
        go_wp2_with fail
        refine (HPL.out _).mono ?_
        rintro e w1 ⟨rfl, rfl⟩
        go_wp2_with fail
        go_roundw
        case rel => exact ⟨k + 1, by go_num, by omega, by rw [HSU.out]; exact HO.out, hx⟩
        case measure => simp [intOf]; omega
      · have hin : inputP s = s.data.toList.map symN ++ [3] := by unfold inputP; rw [if_neg hp]
        rw [hin] at hsu
        rw [Bool.not_eq_true] at hp
        rw [hp] at hPl
        have HSU := Lib.hid hsu
        have HPL := Lib.hid hPl
        have hle2 : Hid ((inputL (rows.take k) arch).length + s.size + 1 ≤ 1000000) := by
          show _ ≤ _
          rw [hsu, List.length_append, List.length_append, List.length_map] at hle
          have : s.data.toList.length = s.size := rfl
          simp only [List.length_cons, List.length_nil] at hle
          omega
        clear hsu hPl hp hin hle
        generalize inputL (rows.take k) arch = L0 at *
        have hL0 : L0.length + s.size + 1 ≤ 1000000 := hle2.out
        go_wp2_with fail
        refine (HPL.out _).mono ?_
        rintro e w1 ⟨rfl, rfl⟩
        go_wp2_with fail
        go_loopw [5, 7] (fun ov iv wr => ∃ i : Nat, iv = .int .i64 i ∧ i ≤ s.size ∧ wr.ownsRow w.heap.size 23 1 ov (L0 ++ (s.data.toList.take i).map symN).length (u32s (L0 ++ (s.data.toList.take i).map symN)) ∧ Ext w wr) (fun _ iv _ => s.size - (intOf iv).toNat)
        case atStart => exact ⟨0, rfl, Nat.zero_le _, by simp only [List.take_zero, List.map_nil, List.append_nil]; exact HO.out, hx⟩
        case round =>
          clear hc hx HO
          obtain ⟨i, rfl, hi, hown, hx⟩ := hrel
          have HO := Lib.hid hown
          clear hown
          have hc := HC.out wr hx
          have hli : (L0 ++ (s.data.toList.take i).map symN).length ≤ 999999 := by
            rw [List.length_append, List.length_map, List.length_take]
            have : s.data.toList.length = s.size := rfl
            omega
          by_cases hlt2 : i < s.size
          · have hsn := sym_snoc s i hlt2
            have HSN : Hid (L0 ++ (s.data.toList.take (i + 1)).map symN = (L0 ++ (s.data.toList.take i).map symN) ++ [symN s[i]]) := by show _ = _; rw [hsn, List.append_assoc]
            clear hsn
            generalize L0 ++ (s.data.toList.take i).map symN = L1 at *
            have hi' := hi
            have hi := hi0
            by_cases h1 : s[i] = 48
            · have b1 : ((s[i].toNat : Int) == 48) = true := by rw [h1]; rfl
              have b2 : ((s[i].toNat : Int) == 49) = false := by rw [h1]; rfl
              rw [show symN s[i] = 0 by rw [h1]; rfl] at HSN
              clear h1
              go_wp2_with (at_builtin; refine wpList_append_own _ rfl (.tmp 45) (.tmp 47) _ rfl w.heap.size 23 i0 _ 1 4 Tryz.underlying44 hi hz0 hz1 hz2 rfl (by omega) _ _ _ rfl (HO.out.alloc _) ⟨wr.heap.size, 0, none⟩ 1 1 [.int .u32 0] rfl rfl ?c1 ?c2 ?c3 ?c4 ?c5 ?_)
              case c1 =>
                intro j u hu
                match j, hu with
                | 0, hu => simp at hu; subst hu; go_cell
              case c2 =>
                intro u hu
                simp at hu
                subst hu; rfl
              case c3 => unfold maxLen; omega
              case c4 => omega
              case c5 => (have hc5 := hx.size; try simp at hc5); simp; omega
              intro v' w2 hown2 hgr _
              have hx3 := (hx.alloc (.cells #[.int .u32 0] 23)).grown hgr (fun k hk => (HO.out.lt k hk).1)
              have HO2 := Lib.hid hown2
              have HG := Lib.hid hgr
              clear hown2 hgr
              go_wp2_with fail
              go_roundw
              case rel => exact ⟨i + 1, by go_num, by omega, by rw [HSN.out, u32s_snoc, List.length_append]; exact HO2.out, hx3⟩
              case measure => simp [intOf]; omega
            · by_cases h2 : s[i] = 49
              · have b1 : ((s[i].toNat : Int) == 48) = false := by rw [h2]; rfl
                have b2 : ((s[i].toNat : Int) == 49) = true := by rw [h2]; rfl
                rw [show symN s[i] = 1 by rw [h2]; rfl] at HSN
                clear h1 h2
                go_wp2_with (at_builtin; refine wpList_append_own _ rfl (.tmp 45) (.tmp 47) _ rfl w.heap.size 23 i0 _ 1 4 Tryz.underlying44 hi hz0 hz1 hz2 rfl (by omega) _ _ _ rfl (HO.out.alloc _) ⟨wr.heap.size, 0, none⟩ 1 1 [.int .u32 1] rfl rfl ?c1 ?c2 ?c3 ?c4 ?c5 ?_)
                case c1 =>
                  intro j u hu
                  match j, hu with
                  | 0, hu => simp at hu; subst hu; go_cell
                case c2 =>
                  intro u hu
                  simp at hu
                  subst hu; rfl
                case c3 => unfold maxLen; omega
                case c4 => omega
                case c5 => (have hc5 := hx.size; try simp at hc5); simp; omega
                intro v' w2 hown2 hgr _
                have hx3 := (hx.alloc (.cells #[.int .u32 1] 23)).grown hgr (fun k hk => (HO.out.lt k hk).1)
                have HO2 := Lib.hid hown2
                have HG := Lib.hid hgr
                clear hown2 hgr
                go_wp2_with fail
                go_roundw
                case rel => exact ⟨i + 1, by go_num, by omega, by rw [HSN.out, u32s_snoc, List.length_append]; exact HO2.out, hx3⟩
                case measure => simp [intOf]; omega
              · have b1 : ((s[i].toNat : Int) == 48) = false := by rw [beq_eq_false_iff_ne]; intro e; exact h1 (UInt8.toNat_inj.1 (by have : (48 : UInt8).toNat = 48 := rfl; omega))
                have b2 : ((s[i].toNat : Int) == 49) = false := by rw [beq_eq_false_iff_ne]; intro e; exact h2 (UInt8.toNat_inj.1 (by have : (49 : UInt8).toNat = 49 := rfl; omega))
                rw [show symN s[i] = 2 by unfold symN; rw [if_neg h1, if_neg h2]] at HSN
                clear h1 h2
                go_wp2_with (at_builtin; refine wpList_append_own _ rfl (.tmp 45) (.tmp 47) _ rfl w.heap.size 23 i0 _ 1 4 Tryz.underlying44 hi hz0 hz1 hz2 rfl (by omega) _ _ _ rfl (HO.out.alloc _) ⟨wr.heap.size, 0, none⟩ 1 1 [.int .u32 2] rfl rfl ?c1 ?c2 ?c3 ?c4 ?c5 ?_)
                case c1 =>
                  intro j u hu
                  match j, hu with
                  | 0, hu => simp at hu; subst hu; go_cell
                case c2 =>
                  intro u hu
                  simp at hu
                  subst hu; rfl
                case c3 => unfold maxLen; omega
                case c4 => omega
                case c5 => (have hc5 := hx.size; try simp at hc5); simp; omega
                intro v' w2 hown2 hgr _
                have hx3 := (hx.alloc (.cells #[.int .u32 2] 23)).grown hgr (fun k hk => (HO.out.lt k hk).1)
                have HO2 := Lib.hid hown2
                have HG := Lib.hid hgr
                clear hown2 hgr
                go_wp2_with fail
                go_roundw
                case rel => exact ⟨i + 1, by go_num, by omega, by rw [HSN.out, u32s_snoc, List.length_append]; exact HO2.out, hx3⟩
                case measure => simp [intOf]; omega
          · obtain rfl : i = s.size := by omega
            have hfull : (s.data.toList.take s.size) = s.data.toList := List.take_of_length_le (Nat.le_refl _)
            rw [hfull] at HO hli
            have HSU2 : Hid (inputL (rows.take (k + 1)) arch = (L0 ++ s.data.toList.map symN) ++ [3]) := by show _ = _; rw [HSU.out, List.append_assoc]
            clear hfull
            generalize L0 ++ s.data.toList.map symN = L1 at *
            have hi' := hi
            have hi := hi0
            go_wp2_with (at_builtin; refine wpList_append_own _ rfl (.tmp 49) (.tmp 50) _ rfl w.heap.size 23 i0 _ 1 4 Tryz.underlying44 hi hz0 hz1 hz2 rfl (by omega) _ _ _ rfl (HO.out.alloc _) ⟨wr.heap.size, 0, none⟩ 1 1 [.int .u32 3] rfl rfl ?d1 ?d2 ?d3 ?d4 ?d5 ?_)
            case d1 =>
              intro j u hu
              match j, hu with
              | 0, hu => simp at hu; subst hu; go_cell
            case d2 =>
              intro u hu
              simp at hu
              subst hu; rfl
            case d3 => unfold maxLen; omega
            case d4 => omega
            case d5 => (have hc5 := hx.size; try simp at hc5); simp; omega
            intro v' w2 hown2 hgr _
            have hx3 := (hx.alloc (.cells #[.int .u32 3] 23)).grown hgr (fun k hk => (HO.out.lt k hk).1)
            have HO2 := Lib.hid hown2
            have HG := Lib.hid hgr
            clear hown2 hgr
            go_wp2_with fail
            go_roundw
            case rel => exact ⟨k + 1, by go_num, by omega, by rw [HSU2.out, u32s_snoc, List.length_append]; exact HO2.out, hx3⟩
            case measure => simp [intOf]; omega
    · obtain rfl : k = n := by omega
      have hfull : rows.take k = rows := List.take_of_length_le (by rw [HLN.out]; exact Nat.le_refl _)
      rw [hfull] at HO
      clear hfull
      go_wp2_with fail
      go_ret
      exact ⟨_, rfl, HO.out, hx⟩

/-- the size of pieces, as the laws count it -/
def totR (rows : List ByteArray) : Nat := (rows.map fun s => 1 + s.size).sum
theorem totR_succ (rows : List ByteArray) (k : Nat) (h : k < rows.length) : totR (rows.take (k + 1)) = totR (rows.take k) + (1 + rows[k].size) := by
  unfold totR
  rw [List.take_succ_eq_append_getElem h, List.map_append, List.sum_append]
  simp
end Go.Proofs.YtjmglbppmolipaaGreatDoor
