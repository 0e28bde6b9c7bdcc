/- The contracts of the reference of layer 31: Elements, Component, Check, Under say what the path specification says. -/
import Derived.Test.YtkbaappeakgnoaaGreatDoorPathWalk
import Derived.Deep.QuietTactic
import Derived.BigQuiet
import Derived.WalkSpells
namespace Go.Proofs.YtkbaappeakgnoaaGreatDoor
open Go.RowKit Go.Lib
set_option linter.unusedVariables false

theorem Tryz.infoStr : (Tryz.prog.info? 9).map (fun i => (i.zero, i.size, i.bytes)) = some (some (.string ByteArray.empty), 1, 16) := by kernel_rfl

theorem take_snoc (s : ByteArray) (k : Nat) (h : k < s.size) : s.data.toList.take (k + 1) = s.data.toList.take k ++ [s[k]] := by
  rw [List.take_succ_eq_append_getElem (by simpa using h)]; rfl

theorem cutAt_step (s : ByteArray) (k : Nat) (h : k < s.size) (p : List UInt8) :
    cutAt 47 p (s.data.toList.drop k) = if s[k] = 47 then p :: cutAt 47 [] (s.data.toList.drop (k + 1)) else cutAt 47 (p ++ [s[k]]) (s.data.toList.drop (k + 1)) := by
  have hl : k < s.data.toList.length := h
  rw [List.drop_eq_getElem_cons hl]
  rfl

theorem u8_eq (b c : UInt8) : (((b.toNat : Nat) : Int) == ((c.toNat : Nat) : Int)) = decide (b = c) := by
  rw [Bool.eq_iff_iff]
  simp
  constructor
  · intro h; exact UInt8.toNat_inj.1 (by omega)
  · intro h; rw [h]

theorem extract_one (s : ByteArray) (k : Nat) (h : k < s.size) : (s.extract k (k + 1)).data.toList = [s[k]] := by
  have hl : k < s.data.toList.length := h
  simp only [ByteArray.data_extract, Array.toList_extract, List.extract_eq_take_drop]
  rw [List.drop_eq_getElem_cons hl, Nat.add_sub_cancel_left]
  simp
  rfl

set_option maxHeartbeats 1000000 in
set_option maxRecDepth 100000 in
theorem relements_any (s : ByteArray) (w : World) (hs : s.size ≤ 4294967280) :
    Calls Tryz.prog 44 #[.string s] w fun e w' => ∃ v, e = .returned v ∧ w'.ownsRow w.heap.size 9 1 v (els s).length ((els s).map .string) ∧ Ext w w' := by
  obtain ⟨i0, hi, hz0, hz1, hz2⟩ := info_parts Tryz.infoStr
  by_cases h0 : s.size = 0
  · have h1 : (s.toList = []) := by
      rw [ByteArray.toList_eq]
      exact List.eq_nil_of_length_eq_zero h0
    have he : els s = [] := by unfold els; rw [if_pos h0]
    rw [he]
    clear he h0
    go_enter Tryz.func44, Tryz.ntmps44
    go_wp2_with fail
    go_ret
    exact ⟨_, rfl, World.ownsRow_lit w #[] 0 (Nat.le_refl _) (Nat.zero_le _) rfl, (Ext.refl _).alloc _⟩
  · have h1 : (s.toList == []) = false := by
      rw [beq_eq_false_iff_ne, ByteArray.toList_eq]
      intro h
      exact h0 (by have : s.size = s.data.toList.length := rfl; rw [this, h]; rfl)
    have h1' : ¬ (s.toList = []) := by simpa using h1
    have hed := Lib.hid (els_data s h0)
    have hown0 := Lib.hid (World.ownsRow_lit (e := 9) (size := 1) w #[] 0 (Nat.le_refl _) (Nat.zero_le _) rfl)
    clear h0
    go_enter Tryz.func44, Tryz.ntmps44
    go_wp2_with fail
    go_loopw [3, 4, 5] (fun o p i wr => ∃ k : Nat, ∃ z : ByteArray, ∃ l : List ByteArray, k ≤ s.size ∧ i = .int .i64 k ∧ p = .string z ∧ z.size ≤ k ∧ l.length ≤ k ∧
      wr.ownsRow w.heap.size 9 1 o l.length (l.map .string) ∧ (l.map (·.data.toList)) ++ cutAt 47 z.data.toList (s.data.toList.drop k) = cutAt 47 [] s.data.toList ∧ Ext w wr) (fun _ _ i _ => s.size - (intOf i).toNat)
    case atStart => exact ⟨0, ⟨#[]⟩, [], Nat.zero_le _, rfl, rfl, Nat.zero_le _, Nat.zero_le _, hown0.out, rfl, (Ext.refl _).alloc _⟩
    case round =>
      obtain ⟨k, z, l, hk, rfl, rfl, hz, hl, hown, hcut, hx⟩ := hrel
      have HO := Lib.hid hown
      have HC := Lib.hid hcut
      clear hown hcut
      by_cases hlt : k < s.size
      · have hst := cutAt_step s k hlt z.data.toList
        have hex := extract_one s k hlt
        have hsl : (s.extract k (k + 1)).size = 1 := by rw [ByteArray.size_extract]; omega
        by_cases hb : s[k] = 47
        · rw [if_pos hb] at hst
          have hb1 : (((s[k].toNat : Nat) : Int) == 47) = true := by rw [hb]; rfl
          have HST := Lib.hid hst
          clear hst hb hex hsl
          go_wp2_with (at_builtin; refine wpList_append_own _ rfl (.tmp 20) (.tmp 22) _ rfl w.heap.size 9 i0 _ 1 16 Tryz.underlying49 hi hz0 hz1 hz2 rfl (by omega) _ _ _ rfl (HO.out.alloc _) ⟨wr.heap.size, 0, none⟩ 1 1 [.string z] rfl rfl ?c1 ?c2 ?c3 ?c4 ?c5 ?_)
          case c1 =>
            intro j u hu
            match j, hu with
            | 0, hu => simp at hu; subst hu; go_cell
          case c2 =>
            intro u hu
            simp at hu
            subst hu; rfl
          case c3 => unfold maxLen; omega
          case c4 => omega
          case c5 => have := hx.size; simp; omega
          intro v' w2 hown2 hgr _
          have hx3 := (hx.alloc (.cells #[.string z] 9)).grown hgr (fun k hk => (HO.out.lt k hk).1)
          have HO2 := Lib.hid hown2
          have HG := Lib.hid hgr
          clear hown2 hgr
          go_wp2_with fail
          go_roundw
          case rel =>
            refine ⟨k + 1, ⟨#[]⟩, l ++ [z], by omega, by go_num, rfl, Nat.zero_le _, by simp; omega, ?_, ?_, hx3⟩
            · have := HO2.out
              simpa using this
            · rw [List.map_append, List.map_cons, List.map_nil, List.append_assoc, List.cons_append, List.nil_append]
              rw [← HC.out, HST.out]
          case measure => simp [intOf]; omega
        · rw [if_neg hb] at hst
          have hb1 : (((s[k].toNat : Nat) : Int) == 47) = false := by
            have := u8_eq s[k] 47
            rw [decide_eq_false hb] at this
            exact this
          have HST := Lib.hid hst
          have HEX := Lib.hid hex
          clear hst hb hex
          go_wp2_with fail
          go_roundw
          case rel =>
            refine ⟨k + 1, _, l, by omega, by go_num, rfl, ?_, by omega, HO.out, ?_, hx⟩
            · rw [ByteArray.size_append, hsl]; omega
            · have e : (z ++ s.extract k (k + 1)).data.toList = z.data.toList ++ (s.extract k (k + 1)).data.toList := by simp
              rw [e, HEX.out, ← HST.out]
              exact HC.out
          case measure => simp [intOf]; omega
      · obtain rfl : k = s.size := by omega
        have hend : l ++ [z] = els s := by
          apply bytesList_inj
          have h2 := HC.out
          have hl2 : s.data.toList.length = s.size := rfl
          rw [List.drop_of_length_le (by omega)] at h2
          rw [hed.out, ← h2]
          simp [cutAt]
        have HEND := Lib.hid hend
        clear hend
        go_wp2_with (at_builtin; refine wpList_append_own _ rfl (.tmp 31) (.tmp 33) _ rfl w.heap.size 9 i0 _ 1 16 Tryz.underlying49 hi hz0 hz1 hz2 rfl (by omega) _ _ _ rfl (HO.out.alloc _) ⟨wr.heap.size, 0, none⟩ 1 1 [.string z] rfl rfl ?d1 ?d2 ?d3 ?d4 ?d5 ?_)
        case d1 =>
          intro j u hu
          match j, hu with
          | 0, hu => simp at hu; subst hu; go_cell
        case d2 =>
          intro u hu
          simp at hu
          subst hu; rfl
        case d3 => unfold maxLen; omega
        case d4 => omega
        case d5 => have := hx.size; simp; omega
        intro v' w2 hown2 hgr _
        have hx3 := (hx.alloc (.cells #[.string z] 9)).grown hgr (fun k hk => (HO.out.lt k hk).1)
        have HO2 := Lib.hid hown2
        have HG := Lib.hid hgr
        clear hown2 hgr
        go_wp2_with fail
        go_ret
        refine ⟨_, rfl, ?_, hx3⟩
        rw [← HEND.out]
        have := HO2.out
        simpa using this

theorem okC_i (c : UInt8) : okC c.toNat = (decide (97 ≤ (c.toNat : Int)) && decide ((c.toNat : Int) ≤ 122) || decide (48 ≤ (c.toNat : Int)) && decide ((c.toNat : Int) ≤ 57) || (c.toNat : Int) == 46 || (c.toNat : Int) == 95 || (c.toNat : Int) == 45) := by
  unfold okC
  rw [Bool.eq_iff_iff]
  simp
  omega

theorem rcomponent_any (s : ByteArray) (w : World) (hs : s.size ≤ maxLen) :
    Calls Tryz.prog 45 #[.string s] w fun e w' => e = .returned (.bool (okComp s)) ∧ w = w' := by
  unfold maxLen at hs
  unfold okComp
  obtain ⟨good, hgood⟩ : ∃ b, b = (s.data.toList.all fun b => okC b.toNat) := ⟨_, rfl⟩
  rw [← hgood]
  have HGOOD := Lib.hid hgood
  clear hgood
  by_cases h1 : 0 < (s.size : Int)
  · have g1 : decide (1 ≤ s.size) = true := decide_eq_true (by omega)
    by_cases h2 : (s.size : Int) ≤ 32
    · have g2 : decide (s.size ≤ 32) = true := decide_eq_true (by omega)
      rw [g1, g2]
      cases h3 : (s.toList == [46])
      · cases h4 : (s.toList == [46, 46])
        · clear g1 g2
          go_enter Tryz.func45, Tryz.ntmps45
          go_wp2_with fail
          go_loop [3, 4] (fun o i => ∃ k : Nat, k ≤ s.size ∧ i = .int .i64 k ∧ o = .bool ((s.data.toList.take k).all fun b => okC b.toNat)) (fun _ i => s.size - (intOf i).toNat)
          case atStart => exact ⟨0, Nat.zero_le _, rfl, rfl⟩
          case round =>
            obtain ⟨k, hk, rfl, rfl⟩ := hrel
            cases hall : ((s.data.toList.take k).all fun b => okC b.toNat)
            · have hfin : (s.data.toList.all fun b => okC b.toNat) = false := by
                rw [List.all_eq_false] at hall ⊢
                obtain ⟨x, hx, hx2⟩ := hall
                exact ⟨x, List.mem_of_mem_take hx, hx2⟩
              have HF := Lib.hid hfin
              clear hall hfin
              go_wp2_with fail
              go_ret
              exact ⟨ret_bool (by rw [HGOOD.out, HF.out]), rfl⟩
            · by_cases hlt : k < s.size
              · have hst : Hid (((s.data.toList.take (k + 1)).all fun b => okC b.toNat) = okC s[k].toNat) := by
                  show _ = _
                  rw [take_snoc s k hlt, List.all_append, hall]
                  simp
                have hok := Lib.hid (okC_i s[k])
                clear hall
                go_wp2_with fail
                all_goals
                  go_round
                  case rel => exact ⟨k + 1, by omega, by go_num, by rw [hst.out, hok.out, Value.bool.injEq, Bool.eq_iff_iff]; simp; omega⟩
                  case measure => simp [intOf]; omega
              · obtain rfl : k = s.size := by omega
                have hl2 : s.data.toList.length = s.size := rfl
                rw [List.take_of_length_le (by omega)] at hall
                have HF := Lib.hid hall
                clear hall hl2
                go_wp2_with fail
                go_ret
                exact ⟨ret_bool (by rw [HGOOD.out, HF.out]), rfl⟩
        · clear g1 g2
          go_enter Tryz.func45, Tryz.ntmps45
          go_wp2_with fail
          go_loop [3, 4] (fun o i => o = .bool false ∧ i = .int .i64 0) (fun _ _ => 0)
          case atStart => exact ⟨rfl, rfl⟩
          case round =>
            obtain ⟨rfl, rfl⟩ := hrel
            go_wp2_with fail
            go_ret
            exact ⟨ret_bool (by simp), rfl⟩
      · clear g1 g2
        go_enter Tryz.func45, Tryz.ntmps45
        go_wp2_with fail
        go_loop [3, 4] (fun o i => o = .bool false ∧ i = .int .i64 0) (fun _ _ => 0)
        case atStart => exact ⟨rfl, rfl⟩
        case round =>
          obtain ⟨rfl, rfl⟩ := hrel
          go_wp2_with fail
          go_ret
          exact ⟨ret_bool (by simp), rfl⟩
    · have g2 : decide (s.size ≤ 32) = false := decide_eq_false (by omega)
      rw [g2]
      clear g1 g2
      go_enter Tryz.func45, Tryz.ntmps45
      go_wp2_with fail
      go_loop [3, 4] (fun o i => o = .bool false ∧ i = .int .i64 0) (fun _ _ => 0)
      case atStart => exact ⟨rfl, rfl⟩
      case round =>
        obtain ⟨rfl, rfl⟩ := hrel
        go_wp2_with fail
        go_ret
        exact ⟨ret_bool (by simp), rfl⟩
  · have g1 : decide (1 ≤ s.size) = false := decide_eq_false (by omega)
    rw [g1]
    clear g1
    go_enter Tryz.func45, Tryz.ntmps45
    go_wp2_with fail
    go_loop [3, 4] (fun o i => o = .bool false ∧ i = .int .i64 0) (fun _ _ => 0)
    case atStart => exact ⟨rfl, rfl⟩
    case round =>
      obtain ⟨rfl, rfl⟩ := hrel
      go_wp2_with fail
      go_ret
      exact ⟨ret_bool (by simp), rfl⟩

theorem Lst.of_strs {w : World} {base : Nat} {v : Value} {l : List ByteArray} (h : w.ownsRow base 9 1 v l.length (l.map .string)) :
    ∃ A cap, v = .slice A l.length cap ∧ Lst w A l.length cap (l.map .string) := Lst.of_own h

theorem rcheck_any (s : ByteArray) (w : World) (hs : s.size ≤ maxLen) :
    Calls Tryz.prog 30 #[.string s] w fun e w' => e = .returned (.int .i64 (chk s)) ∧ Ext w w' := by
  unfold maxLen at hs
  unfold chk
  by_cases h1 : 200 < (s.size : Int)
  · rw [if_pos (by omega)]
    go_enter Tryz.func30, Tryz.ntmps30
    go_wp2_with fail
    go_ret
    exact ⟨rfl, Ext.refl _⟩
  · rw [if_neg (by omega)]
    have hel := relements_any s w (by omega)
    have hmem := els_mem_size s
    have hlen := els_length s
    generalize els s = l at *
    have HE := Lib.hid hel
    have HM := Lib.hid hmem
    clear hel hmem
    by_cases h2 : 8 < (l.length : Int)
    · rw [if_pos (by omega)]
      go_enter Tryz.func30, Tryz.ntmps30
      go_wp2_with fail
      refine HE.out.mono ?_
      rintro e w1 ⟨v, rfl, hown, hx⟩
      obtain ⟨A, cap, rfl, hl⟩ := Lst.of_strs hown
      clear hown
      go_wp2_with fail
      go_ret
      exact ⟨rfl, hx⟩
    · rw [if_neg (by omega)]
      obtain ⟨z, hz⟩ : ∃ z : Int, z = if l.all okComp = true then 0 else 7 := ⟨_, rfl⟩
      rw [← hz]
      have HZ := Lib.hid hz
      clear hz
      go_enter Tryz.func30, Tryz.ntmps30
      go_wp2_with fail
      refine HE.out.mono ?_
      rintro e w1 ⟨v, rfl, hown, hx⟩
      obtain ⟨A, cap, rfl, hl⟩ := Lst.of_strs hown
      clear hown
      have hroom := hl.room
      have hmax := hl.max
      unfold maxLen at hmax
      go_wp2_with fail
      go_loop [4] (fun i => ∃ k : Nat, k ≤ l.length ∧ i = .int .i64 k ∧ (l.take k).all okComp = true) (fun i => l.length - (intOf i).toNat)
      case atStart => exact ⟨0, Nat.zero_le _, rfl, rfl⟩
      case round =>
        obtain ⟨k, hk, rfl, hall⟩ := hrel
        have HA := Lib.hid hall
        clear hall
        by_cases hlt : k < l.length
        · obtain ⟨b, off, rfl, hc⟩ := hl.at_ (by omega)
          have hc1 := hc k (by simpa using hlt)
          simp only [List.getElem_map] at hc1
          have hsz := HM.out l[k] (List.getElem_mem hlt)
          have hfilt : Hid ((l.take (k + 1)).all okComp = okComp l[k]) := by
            show _ = _
            rw [List.take_succ_eq_append_getElem hlt, List.all_append, HA.out]
            simp
          have hfin : Hid (okComp l[k] = false → l.all okComp = false) := by
            intro h
            rw [List.all_eq_false]
            exact ⟨l[k], List.getElem_mem hlt, by simp [h]⟩
          generalize l[k] = x at hc1 hsz hfilt hfin
          have HC := Lib.hid hc
          clear hc
          go_wp2_with fail
          refine (rcomponent_any x _ (by unfold maxLen; omega)).mono ?_
          rintro e w2 ⟨rfl, rfl⟩
          cases hok : okComp x
          · go_wp2_with fail
            go_ret
            exact ⟨by rw [HZ.out, hfin.out hok]; rfl, hx⟩
          · go_wp2_with fail
            go_round
            case rel => exact ⟨k + 1, by omega, by go_num, by rw [hfilt.out, hok]⟩
            case measure => simp [intOf]; omega
        · obtain rfl : k = l.length := by omega
          go_wp2_with fail
          go_ret
          refine ⟨?_, hx⟩
          have := HA.out
          rw [List.take_length] at this
          rw [HZ.out, this]; rfl

end Go.Proofs.YtkbaappeakgnoaaGreatDoor
