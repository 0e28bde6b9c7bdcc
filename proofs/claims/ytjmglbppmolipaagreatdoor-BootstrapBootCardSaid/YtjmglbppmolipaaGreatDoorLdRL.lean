/- The reference of Load. (Layer 27) -/
import Derived.Test.YtjmglbppmolipaaGreatDoorLdRef1
import Derived.Test.YtjmglbppmolipaaGreatDoorLdPlain
namespace Go.Proofs.YtjmglbppmolipaaGreatDoor
open Go.RowKit
open Go.Lib hiding intOf
set_option linter.unusedVariables false

set_option maxHeartbeats 4000000 in
set_option maxRecDepth 100000 in
theorem rpieces_any (A : Option Addr) (n cap arch : Nat) (rows : List ByteArray) (w : World) (ha : arch < 4294967296) (hl : Lst w A n cap (rows.map Value.string)) (hz : ∀ s ∈ rows, s.size ≤ 1000000000) (hN : (framesL rows arch).length ≤ 1000000) :
    Calls Tryz.prog 62 #[.slice A n cap, .int .u32 arch] w fun e w' => ∃ v, e = .returned v ∧ w'.ownsRow w.heap.size 57 4 v (framesL rows arch).length (cellsP (framesL rows arch)) ∧ Ext w w' := by
  obtain ⟨i0, hi0, hz0, hz1, hz2⟩ := info_parts plainInfo
  have hlen : n = rows.length := by rw [hl.len, List.length_map]
  have hroom := hl.room
  have hmax := hl.max
  unfold maxLen at hmax
  have HLN := Lib.hid hlen
  have HZ := Lib.hid hz
  have HNN := Lib.hid hN
  clear hlen hz hN
  go_enter Tryz.func62, Tryz.ntmps62
  go_wp2_with fail
  go_loopw [5, 6] (fun ov kv wr => ∃ k : Nat, kv = .int .i64 k ∧ k ≤ n ∧ wr.ownsRow w.heap.size 57 4 ov (framesL (rows.take k) arch).length (cellsP (framesL (rows.take k) arch)) ∧ Ext w wr) (fun _ kv _ => n - (intOf kv).toNat)
  case atStart => exact ⟨0, rfl, Nat.zero_le _, own_empty w _ _ _ (Nat.le_refl _), (Ext.refl _).alloc _⟩
  case round =>
    obtain ⟨k, rfl, hk, hown, hx⟩ := hrel
    have HO := Lib.hid hown
    clear hown
    by_cases hlt : k < n
    · obtain ⟨rb, off, rfl, hcl⟩ := hl.at_ (by omega)
      have hkl : k < rows.length := by have := HLN.out; omega
      obtain ⟨s, hs⟩ : ∃ s, s = rows[k] := ⟨_, rfl⟩
      have HC : Hid (∀ W, Ext w W → W.cell? ⟨rb, off + k, none⟩ = some (.string s)) := fun W hx => by
        have := hx.cell (hcl k (by rw [List.length_map]; exact hkl))
        rw [List.getElem_map, ← hs] at this
        exact this
      have hsz1 : s.size ≤ 1000000000 := HZ.out s (by rw [hs]; exact List.getElem_mem _)
      have HSU : Hid (framesL (rows.take (k + 1)) arch = framesL (rows.take k) arch ++ framesTo s.data.toList arch (s.size - 767)) := by
        show _ = _
        rw [framesL_succ rows arch k hkl, ← hs]; rfl
      have HPRE : Hid (∀ m, m ≤ s.size - 767 → (framesL (rows.take k) arch ++ framesTo s.data.toList arch m).length ≤ 1000000) := fun m hm => by
        refine Nat.le_trans ?_ HNN.out
        refine List.IsPrefix.length_le (List.IsPrefix.trans ?_ (framesL_pre rows arch (k + 1)))
        rw [HSU.out]
        exact List.prefix_append_right_inj _ |>.2 (framesTo_pre _ _ _ _ hm)
      have hc := HC.out wr hx
      clear hcl hs
      generalize framesL (rows.take k) arch = L0 at *
      go_wp2_with fail
      go_loopw [5, 7] (fun ov iv wr => ∃ i : Nat, iv = .int .i64 i ∧ i ≤ s.size - 767 ∧ wr.ownsRow w.heap.size 57 4 ov (L0 ++ framesTo s.data.toList arch i).length (cellsP (L0 ++ framesTo s.data.toList arch i)) ∧ Ext w wr) (fun _ iv _ => s.size - 767 - (intOf iv).toNat)
      case atStart => exact ⟨0, rfl, Nat.zero_le _, by show World.ownsRow _ _ _ _ _ _ _; simp only [framesTo, List.range_zero, List.flatMap_nil, List.append_nil]; exact HO.out, hx⟩
      case round =>
        clear hc hx HO
        obtain ⟨i, rfl, hi, hown, hx⟩ := hrel
        have HO := Lib.hid hown
        clear hown
        have hc := HC.out wr hx
        by_cases hlt2 : i + 768 ≤ s.size
        · have hPl := fun W => ripl_any s i W (by unfold maxLen; omega) (by omega)
          have hsu := framesTo_succ s.data.toList arch i
          have hle := HPRE.out i hi
          by_cases hp : isPl s.data.toList i = true
          rotate_left
          · rw [Bool.not_eq_true] at hp
            rw [hp] at hPl
            have hfa : frameAt s.data.toList arch i = [] := by unfold frameAt; rw [hp]; rfl
            rw [hfa, List.append_nil] at hsu
            have HSU2 := Lib.hid hsu
            have HPL := Lib.hid hPl
            clear hsu hPl hp hfa
            go_wp2_with fail
            refine (HPL.out _).mono ?_
            rintro e w1 ⟨rfl, rfl⟩
            go_wp2_with fail
            go_roundw
            case rel => exact ⟨i + 1, by go_num, by omega, by rw [HSU2.out]; exact HO.out, hx⟩
            case measure => simp [intOf]; omega
          · rw [hp] at hPl
            have hfa : frameAt s.data.toList arch i = if (decodeA ((s.data.toList.drop (i + 16)).take 752)).2 = 0 ∧ (decodeA ((s.data.toList.drop (i + 16)).take 752)).1.arch = arch then [(decodeA ((s.data.toList.drop (i + 16)).take 752)).1] else [] := by unfold frameAt; rw [if_pos hp]
            rw [hfa] at hsu
            have hD := fun W => rdecode_any (BA ((s.data.toList.drop (i + 16)).take 752)) W (by rw [BA_size, List.length_take]; unfold maxLen; omega)
            rw [BA_data] at hD
            have e1 : s.extract (i + 16) (i + 768) = BA ((s.data.toList.drop (i + 16)).take 752) := by rw [ext_BA, show i + 768 - (i + 16) = 752 by omega]
            rw [← e1] at hD
            generalize decodeA ((s.data.toList.drop (i + 16)).take 752) = D at *
            obtain ⟨⟨pa, pi, pt, ps⟩, E⟩ := D
            simp only at hD hsu
            have HD : Hid (∀ W, Calls Tryz.prog 92 #[.string (s.extract (i + 16) (i + 768))] W fun e w' => e = .returned (.tuple #[.agg #[.int .u32 pa, .int .i64 pi, .int .i64 pt, .string ps], .int .i64 E]) ∧ Ext W w') := hD
            have HPL := Lib.hid hPl
            clear hD hPl hp hfa e1
            by_cases hE0 : E = 0
            rotate_left
            · rw [if_neg (fun h => hE0 h.1), List.append_nil] at hsu
              have HSU2 := Lib.hid hsu
              have hE0' : (E == 0) = false := by simpa using hE0
              clear hsu hE0
              go_wp2_with fail
              refine (HPL.out _).mono ?_
              rintro e w1 ⟨rfl, rfl⟩
              go_wp2_with fail
              refine (HD.out _).mono ?_
              rintro e w2 ⟨rfl, hx2⟩
              have hy : Ext _ (w2.alloc (.cells #[.int .u32 pa, .int .i64 pi, .int .i64 pt, .string ps] 57)) := hx2.alloc _
              go_wp2_with fail
              go_roundw
              case rel => exact ⟨i + 1, by go_num, by omega, by rw [HSU2.out]; exact own_ext HO.out hy, hx.trans hy⟩
              case measure => simp [intOf]; omega
            subst hE0
            by_cases har : pa = arch
            rotate_left
            · rw [if_neg (fun h => har h.2), List.append_nil] at hsu
              have HSU2 := Lib.hid hsu
              have har' : ((pa : Int) == (arch : Int)) = false := by rw [beq_eq_false_iff_ne]; omega
              clear hsu har
              go_wp2_with fail
              refine (HPL.out _).mono ?_
              rintro e w1 ⟨rfl, rfl⟩
              go_wp2_with fail
              refine (HD.out _).mono ?_
              rintro e w2 ⟨rfl, hx2⟩
              have hy : Ext _ (w2.alloc (.cells #[.int .u32 pa, .int .i64 pi, .int .i64 pt, .string ps] 57)) := hx2.alloc _
              go_wp2_with fail
              go_roundw
              case rel => exact ⟨i + 1, by go_num, by omega, by rw [HSU2.out]; exact own_ext HO.out hy, hx.trans hy⟩
              case measure => simp [intOf]; omega
            subst har
            rw [if_pos ⟨rfl, rfl⟩] at hsu
            have HSU2 := Lib.hid hsu
            clear hsu
            go_wp2_with fail
            refine (HPL.out _).mono ?_
            rintro e w1 ⟨rfl, rfl⟩
            go_wp2_with fail
            refine (HD.out _).mono ?_
            rintro e w2 ⟨rfl, hx2⟩
            have hy : Ext _ (w2.alloc (.cells #[.int .u32 pa, .int .i64 pi, .int .i64 pt, .string ps] 57)) := hx2.alloc _
            have hx := hx.trans hy
            have HO := Lib.hid (own_ext HO.out hy)
            have hq : (pa : Int) = pa := rfl
            have heq : ((pa : Int) == (pa : Int)) = true := beq_self_eq_true _
            have hi' := hi
            have hi := hi0
            obtain ⟨e0, e1, e2, e3, -⟩ := four (show Blk (w2.alloc (.cells #[.int .u32 pa, .int .i64 pi, .int .i64 pt, .string ps] 57)) w2.heap.size 57 [.int .u32 pa, .int .i64 pi, .int .i64 pt, .string ps] from (by show (w2.heap.push _)[w2.heap.size]? = _; simp))
            have HY := Lib.hid hy
            clear hy hx2
            go_wp2_with (at_builtin; refine wpList_append_own _ rfl (.tmp 55) (.tmp 57) _ rfl w.heap.size 57 i0 _ 4 40 Tryz.underlying42 hi hz0 hz1 hz2 rfl (by omega) _ _ _ rfl (HO.out.alloc _) ⟨w2.heap.size + 1, 0, none⟩ 1 1 [.int .u32 pa, .int .i64 pi, .int .i64 pt, .string ps] rfl rfl ?c1 ?c2 ?c3 ?c4 ?c5 ?_)
            case c1 =>
              intro j u hu
              match j, hu with
              | 0, hu => simp at hu; subst hu; go_cell
              | 1, hu => simp at hu; subst hu; simp [Addr.add]
              | 2, hu => simp at hu; subst hu; simp [Addr.add]
              | 3, hu => simp at hu; subst hu; simp [Addr.add]
            case c2 =>
              intro u hu
              simp at hu
              rcases hu with rfl | rfl | rfl | rfl <;> rfl
            case c3 => unfold maxLen; omega
            case c4 => omega
            case c5 => (have hc5 := hx.size; try simp at hc5); simp; omega
            intro v' w2 hown2 hgr _
            have hx3 := (hx.alloc (.cells #[.int .u32 pa, .int .i64 pi, .int .i64 pt, .string ps] 57)).grown hgr (fun k hk => (HO.out.lt k hk).1)
            have HO2 := Lib.hid hown2
            have HG := Lib.hid hgr
            clear hown2 hgr
            go_wp2_with fail
            go_roundw
            case rel => exact ⟨i + 1, by go_num, by omega, by rw [HSU2.out, ← List.append_assoc, List.length_append, List.length_append, cellsP_snoc]; exact HO2.out, hx3⟩
            case measure => simp [intOf]; omega
        · obtain rfl : i = s.size - 767 := by omega
          have hlt3 : ¬ ((s.size - 767 : Nat) : Int) + 768 ≤ s.size := by omega
          go_wp2_with fail
          go_roundw
          case rel => exact ⟨k + 1, by go_num, by omega, by rw [HSU.out]; exact HO.out, hx⟩
          case measure => simp [intOf]; omega
    · obtain rfl : k = n := by omega
      have hfull : rows.take k = rows := List.take_of_length_le (by rw [HLN.out]; exact Nat.le_refl _)
      rw [hfull] at HO
      clear hfull
      go_wp2_with fail
      go_ret
      exact ⟨_, rfl, HO.out, hx⟩
end Go.Proofs.YtjmglbppmolipaaGreatDoor
namespace Go.Proofs.YtjmglbppmolipaaGreatDoor
open Go.RowKit
open Go.Lib hiding intOf
set_option linter.unusedVariables false

theorem findA_cons (x : Pc) (L : List Pc) (k : Int) : findA (x :: L) k = if x.index = k then some x.text else findA L k := by
  unfold findA
  by_cases h : x.index = k
  · rw [List.find?_cons_of_pos (by simpa using h), if_pos h]; rfl
  · rw [List.find?_cons_of_neg (by simpa using h), if_neg h]
set_option maxRecDepth 100000 in
theorem rfind_any (A : Option Addr) (n cap : Nat) (L : List Pc) (k : Int) (w : World) (hl : PLst w A n cap L) :
    Calls Tryz.prog 63 #[.slice A n cap, .int .i64 k] w fun e w' => e = .returned (.tuple #[.string ((findA L k).getD ByteArray.empty), .bool (findA L k).isSome]) ∧ w = w' := by
  have hlen := hl.len
  have hroom := hl.room
  have hmax := hl.max
  unfold maxLen at hmax
  have HL := Lib.hid hlen
  obtain ⟨R, hR⟩ : ∃ R, R = findA L k := ⟨_, rfl⟩
  rw [← hR]
  have HR := Lib.hid hR
  clear hlen hR
  go_enter Tryz.func63, Tryz.ntmps63
  go_wp2_with fail
  go_loop [6] (fun i => ∃ j : Nat, j ≤ n ∧ i = .int .i64 j ∧ Hid (R = findA (L.drop j) k)) (fun i => n - (intOf i).toNat)
  case atStart => exact ⟨0, Nat.zero_le _, rfl, HR⟩
  case round =>
    obtain ⟨j, hj, rfl, hk⟩ := hrel
    by_cases hlt : j < n
    · obtain ⟨b1, rfl, hc1⟩ := hl.at_ (by omega)
      have hj1 : j < L.length := by have := HL.out; omega
      obtain ⟨e1, e2, e3, e4⟩ := hc1 j hj1
      have hd : R = if L[j].index = k then some L[j].text else findA (L.drop (j + 1)) k := by
        rw [hk.out, List.drop_eq_getElem_cons hj1, findA_cons]
      generalize L[j] = x at *
      obtain ⟨a, i, t, s⟩ := x
      simp only at e1 e2 e3 e4 hd
      have HC1 := Lib.hid hc1
      clear hc1
      by_cases hi : i = k
      · rw [if_pos hi] at hd
        have hik : (i == k) = true := by simpa using hi
        subst hd
        subst hi
        clear HR hk
        go_wp2_with fail
        go_ret2
        exact ⟨rfl, rfl⟩
      · rw [if_neg hi] at hd
        have hik : (i == k) = false := by simpa using hi
        have HD := Lib.hid hd
        clear hd hk HR
        go_wp2_with fail
        go_round
        case rel => exact ⟨j + 1, by omega, by go_num, HD⟩
        case measure => simp [intOf]; omega
    · obtain rfl : j = n := by omega
      have h0 : R = none := by
        rw [hk.out, List.drop_of_length_le (by rw [HL.out]; exact Nat.le_refl _)]; rfl
      subst h0
      clear hk HR
      go_wp2_with fail
      go_ret2
      exact ⟨rfl, rfl⟩

theorem str_eq2 (x y : ByteArray) : (x.toList == y.toList) = decide (x = y) := by
  rw [Bool.eq_iff_iff, decide_eq_true_iff, beq_iff_eq]
  constructor
  · intro h
    exact bytes_inj (by rw [← ByteArray.toList_eq, ← ByteArray.toList_eq, h])
  · rintro rfl; rfl

set_option maxHeartbeats 4000000 in
set_option maxRecDepth 100000 in
theorem rload_any (A : Option Addr) (n cap arch : Nat) (rows : List ByteArray) (w : World) (ha : arch < 4294967296) (hl : Lst w A n cap (rows.map Value.string)) (hz : ∀ s ∈ rows, s.size ≤ 1000000000) (hN : (framesL rows arch).length ≤ 1000000)
    (hv : ∀ y ∈ framesL rows arch, 1 ≤ y.total ∧ y.total ≤ 99999 ∧ y.text.size = 64) :
    Calls Tryz.prog 38 #[.slice A n cap, .int .u32 arch] w fun e w' => ∃ v, e = .returned (.tuple #[.string (BA (loadA (framesL rows arch)).1), v, .int .i64 (loadA (framesL rows arch)).2.2]) ∧ w'.ownsRow w.heap.size 3 1 v (loadA (framesL rows arch)).2.1.length (intsN (loadA (framesL rows arch)).2.1) ∧ Ext w w' := by
  have HP := Lib.hid (rpieces_any A n cap arch rows w ha hl hz hN)
  generalize framesL rows arch = L at *
  obtain ⟨R, hR⟩ : ∃ R, R = loadA L := ⟨_, rfl⟩
  rw [← hR]
  have HR := Lib.hid hR
  clear hR
  clear hl hz
  have HV := Lib.hid hv
  have hv0 : ∀ y ∈ L, y.total ≠ 0 := fun y hy => by have := (hv y hy).1; omega
  have HV0 := Lib.hid hv0
  clear hv hv0
  go_enter Tryz.func38, Tryz.ntmps38
  go_wp2_with fail
  refine HP.out.mono ?_
  rintro e w1 ⟨v1, rfl, ho1, hx1⟩
  obtain ⟨A1, c1, rfl, hl1⟩ := PLst.of_own ho1
  have HL1 := Lib.hid hl1
  have r1 := hl1.room
  have m1 := hl1.max
  unfold maxLen at m1
  clear ho1 hl1 HP
  by_cases hL0 : L = []
  · subst hL0
    have ha : R = ([], [], 9) := HR.out
    clear HV HV0 HR
    subst ha
    simp only [List.length_nil] at *
    go_wp2_with fail
    refine bodyPost_ret (v := .tuple #[.string ⟨#[]⟩, .slice none 0 0, .int .i64 9]) (by simp [results, Tryz.results38, go_sem]) rfl ?_
    exact ⟨_, rfl, World.ownsRow_nil _ _ _ _, hx1⟩
  have hLn : 0 < L.length := List.length_pos_iff.2 hL0
  obtain ⟨N, hNL⟩ : ∃ N, N = L.length := ⟨_, rfl⟩
  rw [← hNL] at hLn hN r1 HL1 ⊢
  have HNL := Lib.hid hNL
  obtain ⟨b1, rfl, hc1⟩ := HL1.out.at_ hLn
  have HC1 := Lib.hid hc1
  have hL0' : 0 < L.length := List.length_pos_iff.2 hL0
  obtain ⟨y, hy⟩ : ∃ y, y = L[0]'hL0' := ⟨_, rfl⟩
  have hym : y ∈ L := by rw [hy]; exact List.getElem_mem _
  have hyc : w1.cell? ⟨b1, 2, none⟩ = some (.int .i64 y.total) := by
    have := (hc1 0 hL0').2.2.1
    rw [hy]
    simpa using this
  have hyt := HV.out y hym
  clear hc1 hy hL0 hL0' hNL
  obtain ⟨T, hT⟩ : ∃ T : Nat, y.total = (T : Int) := ⟨y.total.toNat, by omega⟩
  rw [hT] at hyc hyt
  have hN0 : ((N : Int) == 0) = false := by rw [beq_eq_false_iff_ne]; omega
  go_wp2_with fail
  go_loopw [8, 9, 10] (fun iv _ _ wr => ∃ j : Nat, j ≤ N ∧ iv = .int .i64 j ∧ Hid (∀ i (h : i < L.length), i < j → refOk L (T : Int) L[i]) ∧ Ext w1 wr) (fun iv _ _ _ => N - (intOf iv).toNat)
  case atStart => exact ⟨0, Nat.zero_le _, rfl, fun i h h' => absurd h' (Nat.not_lt_zero _), Ext.refl _⟩
  case round =>
    obtain ⟨j, hj, rfl, HP, hx⟩ := hrel
    by_cases hlt : j < N
    · have hj1 : j < L.length := by have := HNL.out; omega
      obtain ⟨e1, e2, e3, e4⟩ := HC1.out j hj1
      have e1 := hx.cell e1
      have e2 := hx.cell e2
      have e3 := hx.cell e3
      have e4 := hx.cell e4
      have ey := hx.cell hyc
      obtain ⟨x, hxj⟩ : ∃ x, x = L[j] := ⟨_, rfl⟩
      have hxm : x ∈ L := by rw [hxj]; exact List.getElem_mem _
      have HXJ := Lib.hid hxj
      have HF := Lib.hid (fun W (h : Ext w1 W) => rfind_any _ N c1 L x.index W (HL1.out.ext h))
      have HOKX := Lib.hid (show refOk L (T : Int) x ↔ (x.total = (T : Int) ∧ (findA L x.index).getD ByteArray.empty = x.text) from Iff.rfl)
      have HNO := Lib.hid (fun (h : ¬ refOk L (T : Int) x) => ld_bad HV0.out (refOk_no hym hxm (by rw [hT]; exact h)))
      rw [← hxj] at e1 e2 e3 e4
      generalize (findA L x.index).isSome = fb at *
      generalize (findA L x.index).getD ByteArray.empty = fs at *
      obtain ⟨a, i, t, s⟩ := x
      simp only at e1 e2 e3 e4 HF HOKX
      clear hxj hxm
      by_cases ht : t = (T : Int)
      · have htn : (t != (T : Int)) = false := by simpa using ht
        by_cases hs : fs = s
        · have hsn : (fs.toList != s.toList) = false := by rw [bne, str_eq2, decide_eq_true hs]; rfl
          have hss : (fs.toList == s.toList) = true := by rw [str_eq2, decide_eq_true hs]
          have HP2 : Hid (∀ i (h : i < L.length), i < j + 1 → refOk L (T : Int) L[i]) := by
            intro i h h'
            by_cases e : i = j
            · subst e; rw [← HXJ.out]; exact HOKX.out.2 ⟨ht, hs⟩
            · exact HP.out i h (by omega)
          clear HNO HOKX HXJ
          go_wp2_with fail
          refine (HF.out _ hx).mono ?_
          rintro e w2 ⟨rfl, rfl⟩
          go_wp2_with fail
          go_quiet (fail)
          go_wp2_with fail
          go_roundw
          case rel => exact ⟨j + 1, by omega, by go_num, HP2, hx.drewN _⟩
          case measure => simp [intOf]; omega
        · have hA := HR.out.trans (HNO.out (fun h => hs (HOKX.out.1 h).2))
          clear HR
          subst hA
          have hsn : (fs.toList != s.toList) = true := by rw [bne, str_eq2, decide_eq_false hs]; rfl
          have hss : (fs.toList == s.toList) = false := by rw [str_eq2, decide_eq_false hs]
          clear HNO HOKX HXJ HP
          go_wp2_with fail
          refine (HF.out _ hx).mono ?_
          rintro e w2 ⟨rfl, rfl⟩
          go_wp2_with fail
          go_quiet (fail)
          go_wp2_with fail
          refine bodyPost_ret (v := .tuple #[.string ⟨#[]⟩, .slice none 0 0, .int .i64 20]) (by simp [results, Tryz.results38, go_sem]) rfl ?_
          exact ⟨_, rfl, World.ownsRow_nil _ _ _ _, hx1.trans (hx.drewN _)⟩
      · have hA := HR.out.trans (HNO.out (fun h => ht (HOKX.out.1 h).1))
        clear HR
        subst hA
        have htn : (t != (T : Int)) = true := by simpa using ht
        clear HNO HOKX HXJ HP
        go_wp2_with fail
        refine (HF.out _ hx).mono ?_
        rintro e w2 ⟨rfl, rfl⟩
        go_wp2_with fail
        go_quiet (fail)
        go_wp2_with fail
        refine bodyPost_ret (v := .tuple #[.string ⟨#[]⟩, .slice none 0 0, .int .i64 20]) (by simp [results, Tryz.results38, go_sem]) rfl ?_
        exact ⟨_, rfl, World.ownsRow_nil _ _ _ _, hx1.trans (hx.drewN _)⟩
    · obtain rfl : j = N := by omega
      have hcons : Cons L := by
        refine refOk_cons (T := (T : Int)) ?_
        intro x hx'
        obtain ⟨i, hi, rfl⟩ := List.getElem_of_mem hx'
        exact HP.out i hi (by rw [HNL.out]; exact hi)
      have hA := HR.out.trans (loadA_find HV0.out hym hcons)
      rw [hT] at hA
      have HSZ : Hid (∀ k t, findA L k = some t → t.size = 64) := by
        intro k t e
        obtain ⟨x, hx', -, e2⟩ := (findA_some hcons).1 e
        rw [← e2]; exact (HV.out x hx').2.2
      have HF := Lib.hid (fun W k (h : Ext w1 W) => rfind_any _ j c1 L k W (HL1.out.ext h))
      unfold loadS at hA
      simp only [Bool.false_eq_true, if_false] at hA
      rw [if_neg (show ¬ (T : Int) = 0 by omega), Int.toNat_natCast] at hA
      have HA := Lib.hid hA
      clear hA hcons HP HC1 HL1 HV HV0 HR
      generalize findA L = f at *
      obtain ⟨w3, hw3⟩ : ∃ x, x = wr := ⟨_, rfl⟩
      subst hw3
      have ey := hx.cell hyc
      go_wp2_with fail
      go_loopw [11, 12, 13, 14, 15] (fun tv mv iv _ _ wr => ∃ k : Nat, ∃ S : ByteArray, k ≤ T ∧ iv = .int .i64 k ∧ tv = .string S ∧ Hid (S.data.toList = joinN f k) ∧ wr.ownsRow w3.heap.size 3 1 mv (missN f k).length (intsN (missN f k)) ∧ Ext w3 wr) (fun _ _ iv _ _ _ => T - (intOf iv).toNat)
      case atStart => exact ⟨0, ⟨#[]⟩, Nat.zero_le _, rfl, rfl, rfl, own_empty _ _ _ _ (Nat.le_refl _), (Ext.refl _).alloc _⟩
      case round =>
        obtain ⟨k, S, hk, rfl, rfl, HS, hown, hxr⟩ := hrel
        have ey := (hx.trans hxr).cell hyc
        have HO := Lib.hid hown
        have hml := missN_len f k
        have hSs : S.size ≤ 64 * k := by
          have h1 := joinN_len f (fun k t h => by rw [HSZ.out k t h]; exact Nat.le_refl _) k
          rw [← HS.out] at h1
          exact h1
        clear hown
        by_cases hlt2 : k < T
        · have HFK := Lib.hid (HF.out wr (k : Int) (hx.trans hxr))
          have hm1 := missN_succ f k
          have hj1 := joinN_succ f k
          rcases hf : f (k : Int) with _ | t
          · rw [hf] at HFK hm1 hj1
            simp only [Option.getD_none, Option.isSome_none, Option.isNone_none, if_true] at HFK hm1 hj1
            have HJ : Hid ((S ++ ByteArray.empty).data.toList = joinN f (k + 1)) := by show _ = _; rw [hj1, ← HS.out]; simp
            have HM1 := Lib.hid hm1
            have hes : ByteArray.empty.size = 0 := rfl
            clear hm1 hj1 hf HA HS
            generalize missN f k = M at *
            generalize ByteArray.empty = z at *
            obtain ⟨i0, hi, hz0, hz1, hz2⟩ := info_parts intInfo
            go_wp2_with fail
            refine HFK.out.mono ?_
            rintro e w4 ⟨rfl, rfl⟩
            go_wp2_with (at_builtin; refine wpList_append_own _ rfl (.tmp 77) (.tmp 79) _ rfl w3.heap.size 3 i0 _ 1 8 Tryz.underlying73 hi hz0 hz1 hz2 rfl (by omega) _ _ _ rfl (HO.out.alloc _) ⟨wr.heap.size, 0, none⟩ 1 1 [.int .i64 (k : Int)] rfl rfl ?c1 ?c2 ?c3 ?c4 ?c5 ?_)
            case c1 =>
              intro j u hu
              match j, hu with
              | 0, hu => simp at hu; subst hu; go_cell
            case c2 =>
              intro u hu
              simp at hu
              subst hu; rfl
            case c3 => unfold maxLen; omega
            case c4 => omega
            case c5 => (have hc5 := hxr.size; try simp at hc5); simp; omega
            intro v' w2 hown2 hgr _
            have hx3 := (hxr.alloc (.cells #[.int .i64 (k : Int)] 3)).grown hgr (fun k hk => (HO.out.lt k hk).1)
            have HO2 := Lib.hid hown2
            have HG := Lib.hid hgr
            clear hown2 hgr
            go_wp2_with fail
            go_roundw
            case rel => exact ⟨k + 1, _, by omega, by go_num, rfl, HJ, by rw [HM1.out, List.length_append, intsN_snoc]; exact HO2.out, hx3⟩
            case measure => simp [intOf]; omega
          · rw [hf] at HFK hm1 hj1
            simp only [Option.getD_some, Option.isSome_some, Option.isNone_some, Bool.false_eq_true, if_false, List.append_nil] at HFK hm1 hj1
            have ht64 := HSZ.out _ _ hf
            have HJ : Hid ((S ++ t).data.toList = joinN f (k + 1)) := by show _ = _; rw [hj1, ← HS.out]; simp
            have HM1 := Lib.hid hm1
            clear hm1 hj1 hf HA HS
            generalize missN f k = M at *
            go_wp2_with fail
            refine HFK.out.mono ?_
            rintro e w4 ⟨rfl, rfl⟩
            go_wp2_with fail
            go_roundw
            case rel => exact ⟨k + 1, _, by omega, by go_num, rfl, HJ, by rw [HM1.out]; exact HO.out, hxr⟩
            case measure => simp [intOf]; omega
        · obtain rfl : k = T := by omega
          have hsz3 : w.heap.size ≤ w3.heap.size := Nat.le_trans hx1.size hx.size
          obtain ⟨A2, c2, rfl, hl2⟩ := Lst.of_own HO.out
          have r2 := hl2.room
          have m2 := hl2.max
          unfold maxLen at m2
          clear hl2
          have ha := HA.out
          by_cases hm : missN f k = []
          · rw [if_pos hm] at ha
            have hn0 : (missN f k).length = 0 := by rw [hm]; rfl
            have hS : S = BA (joinN f k) := bytes_inj (by rw [HS.out, BA_data])
            have hS2 : BA R.1 = S := by rw [ha, hS]
            have hR2 : R.2.1 = [] ∧ R.2.2 = 0 := by rw [ha]; exact ⟨rfl, rfl⟩
            rw [hn0] at HO r2 hml ⊢
            have HS2 := Lib.hid hS2
            have HR2 := Lib.hid hR2
            clear hm ha HA hS hn0 hml hS2 hR2
            go_wp2_with fail
            refine bodyPost_ret (v := .tuple #[.string S, .slice none 0 0, .int .i64 0]) (by simp [results, Tryz.results38, go_sem]) rfl ?_
            exact ⟨_, by rw [HS2.out, HR2.out.2], by rw [HR2.out.1]; exact World.ownsRow_nil _ _ _ _, hx1.trans (hx.trans hxr)⟩
          · rw [if_neg hm] at ha
            have hn0 : 0 < (missN f k).length := List.length_pos_iff.2 hm
            clear hm HA
            generalize missN f k = M at *
            subst ha
            obtain ⟨m, hmM⟩ : ∃ m, m = M.length := ⟨_, rfl⟩
            rw [← hmM] at HO r2 hml hn0 ⊢
            have HMM := Lib.hid hmM
            clear hmM
            go_wp2_with fail
            refine bodyPost_ret (v := .tuple #[.string ⟨#[]⟩, .slice A2 m c2, .int .i64 19]) (by simp [results, Tryz.results38, go_sem]) rfl ?_
            exact ⟨_, rfl, by rw [← HMM.out]; exact own_base HO.out hsz3, hx1.trans (hx.trans hxr)⟩
end Go.Proofs.YtjmglbppmolipaaGreatDoor
