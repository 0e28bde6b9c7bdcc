/- Contracts of Input, of the library and of the reference. (Layer 27) -/
import Derived.Test.YtjmglbppmolipaaGreatDoorLdRef1
namespace Go.Proofs.YtjmglbppmolipaaGreatDoor
open Go.RowKit
open Go.Lib hiding intOf
set_option linter.unusedVariables false

def symN (c : UInt8) : Nat := if c = 48 then 0 else if c = 49 then 1 else 2
def inputP (s : ByteArray) : List Nat := if isPl s.data.toList 0 = true then [] else s.data.toList.map symN ++ [3]
def inputL (rows : List ByteArray) (arch : Nat) : List Nat := arch :: rows.flatMap inputP
def u32s (l : List Nat) : List Value := l.map fun (n : Nat) => Value.int .u32 (n : Int)
theorem u32s_snoc (l : List Nat) (n : Nat) : u32s (l ++ [n]) = u32s l ++ [.int .u32 (n : Int)] := by simp [u32s]
theorem inputL_succ (rows : List ByteArray) (arch k : Nat) (h : k < rows.length) : inputL (rows.take (k + 1)) arch = inputL (rows.take k) arch ++ inputP rows[k] := by
  unfold inputL
  rw [List.take_succ_eq_append_getElem h, List.flatMap_append]
  simp
theorem inputL_le (rows : List ByteArray) (arch k : Nat) : (inputL (rows.take k) arch).length ≤ (inputL rows arch).length := by
  unfold inputL
  rw [List.length_cons, List.length_cons]
  have : rows.flatMap inputP = (rows.take k).flatMap inputP ++ (rows.drop k).flatMap inputP := by rw [← List.flatMap_append, List.take_append_drop]
  rw [this, List.length_append]
  omega
theorem u32Info : (Tryz.prog.info? 23).map (fun i => (i.zero, i.size, i.bytes)) = some (some (.int .u32 0), 1, 4) := by kernel_rfl
theorem own_one (w : World) (base : Nat) (e : TypeId) (x : Value) (hb : base ≤ w.heap.size) : (w.alloc (.cells #[x] e)).ownsRow base e 1 (.slice (some ⟨w.heap.size, 0, none⟩) 1 1) 1 [x] :=
  ⟨by simp, .inr ⟨w.heap.size, 1, #[x], rfl, hb, heap_alloc_new w _, Nat.le_refl _, by decide, by simp, by simp⟩⟩
theorem sym_snoc (s : ByteArray) (i : Nat) (h : i < s.size) : (s.data.toList.take (i + 1)).map symN = (s.data.toList.take i).map symN ++ [symN s[i]] := by
  rw [List.take_succ_eq_append_getElem (show i < s.data.toList.length from h), List.map_append]; rfl

theorem symbol_any (c : UInt8) (w : World) :
    Calls Tryz.prog 41 #[.int .u8 (c.toNat : Int)] w fun e w' => e = .returned (.int .u32 (symN c : Int)) ∧ w = w' := by
  by_cases h1 : c = 48
  · subst h1
    go_enter Tryz.func41, Tryz.ntmps41
    go_wp2_with fail
    go_ret
    exact ⟨rfl, rfl⟩
  · by_cases h2 : c = 49
    · subst h2
      go_enter Tryz.func41, Tryz.ntmps41
      go_wp2_with fail
      go_ret
      exact ⟨rfl, rfl⟩
    · have e : symN c = 2 := by unfold symN; rw [if_neg h1, if_neg h2]
      rw [e]
      have g1 : ((c.toNat : Int) == 48) = false := by rw [beq_eq_false_iff_ne]; intro e; exact h1 (UInt8.toNat_inj.1 (by have : (48 : UInt8).toNat = 48 := rfl; omega))
      have g2 : ((c.toNat : Int) == 49) = false := by rw [beq_eq_false_iff_ne]; intro e; exact h2 (UInt8.toNat_inj.1 (by have : (49 : UInt8).toNat = 49 := rfl; omega))
      have g3 : ¬ (c.toNat : Int) = 48 := by simpa using g1
      have g4 : ¬ (c.toNat : Int) = 49 := by simpa using g2
      clear h1 h2 e
      go_enter Tryz.func41, Tryz.ntmps41
      go_wp2_with fail
      go_ret
      exact ⟨rfl, rfl⟩

set_option maxHeartbeats 4000000 in
set_option maxRecDepth 100000 in
theorem input_any (A : Option Addr) (n cap arch : Nat) (rows : List ByteArray) (w : World) (hl : Lst w A n cap (rows.map Value.string)) (hz : ∀ s ∈ rows, s.size ≤ 1000000000) (hN : (inputL rows arch).length ≤ 1000000) :
    Calls Tryz.prog 22 #[.slice A n cap, .int .u32 arch] w fun e w' => ∃ v, e = .returned v ∧ w'.ownsRow w.heap.size 23 1 v (inputL rows arch).length (u32s (inputL rows arch)) ∧ Ext w w' := by
  obtain ⟨i0, hi0, hz0, hz1, hz2⟩ := info_parts u32Info
  have hlen : n = rows.length := by rw [hl.len, List.length_map]
  have hroom := hl.room
  have hmax := hl.max
  unfold maxLen at hmax
  have HLN := Lib.hid hlen
  have HZ := Lib.hid hz
  have HNN := Lib.hid hN
  clear hlen hz hN
  go_enter Tryz.func22, Tryz.ntmps22
  go_wp2_with fail
  go_loopw [5, 13] (fun ov kv wr => ∃ k : Nat, kv = .int .i64 k ∧ k ≤ n ∧ wr.ownsRow w.heap.size 23 1 ov (inputL (rows.take k) arch).length (u32s (inputL (rows.take k) arch)) ∧ Ext w wr) (fun _ kv _ => n - (intOf kv).toNat)
  case atStart => exact ⟨0, rfl, Nat.zero_le _, by rw [show rows.take 0 = [] from List.take_zero]; exact own_one w _ _ _ (Nat.le_refl _), (Ext.refl _).alloc _⟩
  case round =>
    obtain ⟨k, rfl, hk, hown, hx⟩ := hrel
    have HO := Lib.hid hown
    clear hown
    by_cases hlt : k < n
    · obtain ⟨rb, off, rfl, hcl⟩ := hl.at_ (by omega)
      have hkl : k < rows.length := by have := HLN.out; omega
      obtain ⟨s, hs⟩ : ∃ s, s = rows[k] := ⟨_, rfl⟩
      have hc : wr.cell? ⟨rb, off + k, none⟩ = some (.string s) := by
        have := hx.cell (hcl k (by rw [List.length_map]; exact hkl))
        rw [List.getElem_map, ← hs] at this
        exact this
      have hsz1 : s.size ≤ 1000000000 := HZ.out s (by rw [hs]; exact List.getElem_mem _)
      have hsu := inputL_succ rows arch k hkl
      rw [← hs] at hsu
      have hle := Nat.le_trans (inputL_le rows arch (k + 1)) HNN.out
      have hPl := fun W => isPlain_any s 0 W (by unfold maxLen; omega) (by unfold maxLen; omega)
      clear hcl hs
      by_cases hp : isPl s.data.toList 0 = true
      · have hin : inputP s = [] := by unfold inputP; rw [if_pos hp]
        rw [hin, List.append_nil] at hsu
        rw [hp] at hPl
        have HSU := Lib.hid hsu
        have HPL := Lib.hid hPl
        clear hsu hPl hp hin hle
        go_wp2_with fail
        refine (HPL.out _).mono ?_
        rintro e w1 ⟨rfl, rfl⟩
        go_wp2_with fail
        go_roundw
        case rel => exact ⟨k + 1, by go_num, by omega, by rw [HSU.out]; exact HO.out, hx⟩
        case measure => simp [intOf]; omega
      · have hin : inputP s = s.data.toList.map symN ++ [3] := by unfold inputP; rw [if_neg hp]
        rw [hin] at hsu
        rw [Bool.not_eq_true] at hp
        rw [hp] at hPl
        have HSU := Lib.hid hsu
        have HPL := Lib.hid hPl
        have hle2 : Hid ((inputL (rows.take k) arch).length + s.size + 1 ≤ 1000000) := by
          show _ ≤ _
          rw [hsu, List.length_append, List.length_append, List.length_map] at hle
          have : s.data.toList.length = s.size := rfl
          simp only [List.length_cons, List.length_nil] at hle
          omega
        clear hsu hPl hp hin hle
        generalize inputL (rows.take k) arch = L0 at *
        have hL0 : L0.length + s.size + 1 ≤ 1000000 := hle2.out
        go_wp2_with fail
        refine (HPL.out _).mono ?_
        rintro e w1 ⟨rfl, rfl⟩
        go_wp2_with fail
        go_loopw [5, 21] (fun ov iv wr => ∃ i : Nat, iv = .int .i64 i ∧ i ≤ s.size ∧ wr.ownsRow w.heap.size 23 1 ov (L0 ++ (s.data.toList.take i).map symN).length (u32s (L0 ++ (s.data.toList.take i).map symN)) ∧ Ext w wr) (fun _ iv _ => s.size - (intOf iv).toNat)
        case atStart => exact ⟨0, rfl, Nat.zero_le _, by simp only [List.take_zero, List.map_nil, List.append_nil]; exact HO.out, hx⟩
        case round =>
          clear hc hx HO
          obtain ⟨i, rfl, hi, hown, hx⟩ := hrel
          have HO := Lib.hid hown
          clear hown
          have hli : (L0 ++ (s.data.toList.take i).map symN).length ≤ 999999 := by
            rw [List.length_append, List.length_map, List.length_take]
            have : s.data.toList.length = s.size := rfl
            omega
          by_cases hlt2 : i < s.size
          · have hsn := sym_snoc s i hlt2
            have HSN : Hid (L0 ++ (s.data.toList.take (i + 1)).map symN = (L0 ++ (s.data.toList.take i).map symN) ++ [symN s[i]]) := by show _ = _; rw [hsn, List.append_assoc]
            clear hsn
            have hSY := Lib.hid (fun W => symbol_any s[i] W)
            generalize symN s[i] = q at *
            generalize L0 ++ (s.data.toList.take i).map symN = L1 at *
            have hi' := hi
            have hi := hi0
            go_wp2_with fail
            refine (hSY.out _).mono ?_
            rintro e w1 ⟨rfl, rfl⟩
            go_wp2_with (at_builtin; refine wpList_append_own _ rfl (.tmp 24) (.tmp 29) _ rfl w.heap.size 23 i0 _ 1 4 Tryz.underlying44 hi hz0 hz1 hz2 rfl (by omega) _ _ _ rfl (HO.out.alloc _) ⟨wr.heap.size, 0, none⟩ 1 1 [.int .u32 (q : Int)] rfl rfl ?c1 ?c2 ?c3 ?c4 ?c5 ?_)
            case c1 =>
              intro j u hu
              match j, hu with
              | 0, hu => simp at hu; subst hu; go_cell
            case c2 =>
              intro u hu
              simp at hu
              subst hu; rfl
            case c3 => unfold maxLen; omega
            case c4 => omega
            case c5 => (have hc5 := hx.size; try simp at hc5); simp; omega
            intro v' w2 hown2 hgr _
            have hx3 := (hx.alloc (.cells #[.int .u32 (q : Int)] 23)).grown hgr (fun k hk => (HO.out.lt k hk).1)
            have HO2 := Lib.hid hown2
            have HG := Lib.hid hgr
            clear hown2 hgr
            go_wp2_with fail
            go_roundw
            case rel => exact ⟨i + 1, by go_num, by omega, by rw [HSN.out, u32s_snoc, List.length_append]; exact HO2.out, hx3⟩
            case measure => simp [intOf]; omega
          · obtain rfl : i = s.size := by omega
            have hfull : (s.data.toList.take s.size) = s.data.toList := List.take_of_length_le (Nat.le_refl _)
            rw [hfull] at HO hli
            have HSU2 : Hid (inputL (rows.take (k + 1)) arch = (L0 ++ s.data.toList.map symN) ++ [3]) := by show _ = _; rw [HSU.out, List.append_assoc]
            clear hfull
            generalize L0 ++ s.data.toList.map symN = L1 at *
            have hi' := hi
            have hi := hi0
            go_wp2_with (at_builtin; refine wpList_append_own _ rfl (.tmp 32) (.tmp 33) _ rfl w.heap.size 23 i0 _ 1 4 Tryz.underlying44 hi hz0 hz1 hz2 rfl (by omega) _ _ _ rfl (HO.out.alloc _) ⟨wr.heap.size, 0, none⟩ 1 1 [.int .u32 3] rfl rfl ?d1 ?d2 ?d3 ?d4 ?d5 ?_)
            case d1 =>
              intro j u hu
              match j, hu with
              | 0, hu => simp at hu; subst hu; go_cell
            case d2 =>
              intro u hu
              simp at hu
              subst hu; rfl
            case d3 => unfold maxLen; omega
            case d4 => omega
            case d5 => (have hc5 := hx.size; try simp at hc5); simp; omega
            intro v' w2 hown2 hgr _
            have hx3 := (hx.alloc (.cells #[.int .u32 3] 23)).grown hgr (fun k hk => (HO.out.lt k hk).1)
            have HO2 := Lib.hid hown2
            have HG := Lib.hid hgr
            clear hown2 hgr
            go_wp2_with fail
            go_roundw
            case rel => exact ⟨k + 1, by go_num, by omega, by rw [HSU2.out, u32s_snoc, List.length_append]; exact HO2.out, hx3⟩
            case measure => simp [intOf]; omega
    · obtain rfl : k = n := by omega
      have hfull : rows.take k = rows := List.take_of_length_le (by rw [HLN.out]; exact Nat.le_refl _)
      rw [hfull] at HO
      clear hfull
      go_wp2_with fail
      go_ret
      exact ⟨_, rfl, HO.out, hx⟩
end Go.Proofs.YtjmglbppmolipaaGreatDoor
