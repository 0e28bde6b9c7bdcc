/- The contracts of the reference of layer 18, fourth part: words, Words. -/
import Derived.Test.YtimegcnpembhkaaDoorAsmRef2
import Derived.Test.YtimegcnpembhkaaDoorAsmDis
namespace Go.Proofs.YtimegcnpembhkaaDoor
open Go.RowKit
open Go.Lib hiding intOf
set_option linter.unusedVariables false

theorem Tryd.infoWord : (Tryd.prog.info? 64).map (fun i => (i.zero, i.size, i.bytes)) = some (some (.agg #[.string ByteArray.empty, .int .i64 0]), 2, 24) := by kernel_rfl

theorem u8_eq (b c : UInt8) (h : b = c) : (((b.toNat : Nat) : Int) == ((c.toNat : Nat) : Int)) = true := by rw [h]; simp
theorem u8_neq (b c : UInt8) (h : b ≠ c) : (((b.toNat : Nat) : Int) == ((c.toNat : Nat) : Int)) = false := by
  rw [beq_eq_false_iff_ne]
  intro e
  exact h (UInt8.toNat_inj.1 (by omega))
theorem ext_one (s : ByteArray) (k : Nat) (h : k < s.size) : (s.extract k (k + 1)).data.toList = [s[k]] := by
  have e : s.data.toList.drop k = s[k] :: s.data.toList.drop (k + 1) := drop_get s k h
  simp only [ByteArray.data_extract, Array.toList_extract, List.extract_eq_take_drop]
  rw [e, show k + 1 - k = 1 by omega]
  rfl
theorem ext_snoc (s : ByteArray) (f k : Nat) (hf : f ≤ k) (h : k < s.size) : (s.extract f (k + 1)).data.toList = (s.extract f k).data.toList ++ [s[k]] := by
  simp only [ByteArray.data_extract, Array.toList_extract, List.extract_eq_take_drop]
  rw [show k + 1 - f = (k - f) + 1 by omega, List.take_succ_eq_append_getElem (show k - f < (s.data.toList.drop f).length by rw [List.length_drop]; have : s.data.toList.length = s.size := rfl; omega)]
  congr 1
  rw [List.getElem_drop]
  simp only [show f + (k - f) = k by omega]
  rfl
theorem ext_ne (s : ByteArray) (f k : Nat) (hf : f < k) (h : k ≤ s.size) : (s.extract f k).data.toList ≠ [] := by
  intro e
  have h1 := congrArg List.length e
  have h2 : (s.extract f k).data.toList.length = (s.extract f k).size := rfl
  rw [h2, ByteArray.size_extract] at h1
  simp at h1
  omega

theorem own_empty (w : World) (base : Nat) (e : TypeId) (size : Nat) (hb : base ≤ w.heap.size) : (w.alloc (.cells #[] e)).ownsRow base e size (.slice (some ⟨w.heap.size, 0, none⟩) 0 0) 0 [] :=
  ⟨by simp, Or.inr ⟨w.heap.size, 0, #[], rfl, hb, by show (w.heap.push _)[w.heap.size]? = _; simp, Nat.le_refl _, Nat.zero_le _, by simp, by simp⟩⟩
theorem own_apart {w : World} {b1 b2 : Nat} {e1 e2 : TypeId} {s1 s2 : Nat} {v1 v2 : Value} {n1 n2 : Nat} {x1 x2 : List Value} (h1 : w.ownsRow b1 e1 s1 v1 n1 x1) (h2 : w.ownsRow b2 e2 s2 v2 n2 x2) (he : e1 ≠ e2) : v1.ownBlock = none ∨ v1.ownBlock ≠ v2.ownBlock := by
  obtain ⟨_, h1⟩ := h1
  obtain ⟨_, h2⟩ := h2
  rcases h1 with ⟨rfl, _⟩ | ⟨g, cap, cur, rfl, _, hb, _⟩
  · exact Or.inl rfl
  · right
    rcases h2 with ⟨rfl, _⟩ | ⟨g2, cap2, cur2, rfl, _, hb2, _⟩
    · simp [Value.ownBlock]
    · intro e
      have : g = g2 := by simpa [Value.ownBlock] using e
      subst this
      rw [hb] at hb2
      injection hb2 with h
      injection h with _ h3
      exact he h3

set_option maxHeartbeats 4000000 in
set_option maxRecDepth 100000 in
theorem rwords_any (s : ByteArray) (w : World) (hs : s.size < 1000000000) :
    Calls Tryd.prog 30 #[.string s] w fun e w' => ∃ v, e = .returned v ∧ w'.ownsRow w.heap.size 64 2 v (toks s.data.toList).length (holdCells ((toks s.data.toList).map tokH)) ∧ Ext w w' := by
  obtain ⟨i0, hi, hz0, hz1, hz2⟩ := info_parts Tryd.infoWord
  have hsl : s.data.toList.length = s.size := rfl
  have hlen := toks_length s.data.toList
  rw [hsl] at hlen
  have hsc := scan_toks s.data.toList
  generalize toks s.data.toList = ts at *
  have HT := Lib.hid hsc
  clear hsc hsl
  go_enter Tryd.func30, Tryd.ntmps30
  go_wp2_with fail
  go_loopw [3, 4, 5, 6, 7, 8] (fun o lv fv cv i ev wr => ∃ (k ln : Nat) (cur : Bytes) (com : Bool) (acc : List Tok), k ≤ s.size ∧ i = .int .i64 k ∧ lv = .int .i64 ln ∧ cv = .bool com ∧ ln ≤ k + 1 ∧ acc ++ scan (s.data.toList.drop k) ln cur com = ts ∧ ((cur = [] ∧ fv = .int .i64 (-1)) ∨ ∃ f : Nat, f < k ∧ com = false ∧ fv = .int .i64 (f : Int) ∧ cur = (s.extract f k).data.toList) ∧ wr.ownsRow w.heap.size 64 2 o acc.length (holdCells (acc.map tokH)) ∧ Ext w wr) (fun _ _ _ _ i _ _ => s.size - (intOf i).toNat)
  case atStart => exact ⟨0, 1, [], false, [], Nat.zero_le _, rfl, rfl, rfl, Nat.le_refl _, HT.out, Or.inl ⟨rfl, rfl⟩, own_empty w _ _ _ (Nat.le_refl _), (Ext.refl w).alloc _⟩
  case round =>
    obtain ⟨k, ln, cur, com, acc, hk, rfl, rfl, rfl, hln, hacc, hfrom, hown, hx⟩ := hrel
    have HO := Lib.hid hown
    clear hown
    by_cases hlt : k < s.size
    · rw [drop_get s k hlt] at hacc
      have HXO := Lib.hid (ext_one s k hlt)
      rcases hfrom with ⟨rfl, rfl⟩ | ⟨f, hf, rfl, rfl, hcur⟩
      · cases com with
        | true =>
          by_cases c10 : s[k] = 10
          · have hc := c10
            have t10 : ((((s[k]).toNat : Nat) : Int) == 10) = true := u8_eq s[k] 10 hc
            have t35 : ((((s[k]).toNat : Nat) : Int) == 35) = false := u8_neq s[k] 35 (by rw [hc]; decide)
            have t32 : ((((s[k]).toNat : Nat) : Int) == 32) = false := u8_neq s[k] 32 (by rw [hc]; decide)
            have ha : Hid (acc ++ scan (s.data.toList.drop (k + 1)) (ln + 1) ([]) false = ts) := by
              show _ = _
              rw [hc] at hacc
              rw [scan_nl] at hacc
              simpa using hacc
            clear hacc hc c10
            go_wp2_with fail
            go_roundw
            case rel => exact ⟨k + 1, _, _, _, acc, by omega, by go_num, by go_num, rfl, by omega, ha.out, Or.inl ⟨rfl, rfl⟩, HO.out, hx⟩
            case measure => simp [intOf]; omega
          · skip
            by_cases c35 : s[k] = 35
            · have hc := c35
              have t10 : ((((s[k]).toNat : Nat) : Int) == 10) = false := u8_neq s[k] 10 (by rw [hc]; decide)
              have t35 : ((((s[k]).toNat : Nat) : Int) == 35) = true := u8_eq s[k] 35 hc
              have t32 : ((((s[k]).toNat : Nat) : Int) == 32) = false := u8_neq s[k] 32 (by rw [hc]; decide)
              have ha : Hid (acc ++ scan (s.data.toList.drop (k + 1)) (ln) ([]) true = ts) := by
                show _ = _
                rw [hc] at hacc
                rw [scan_com _ _ _ _ (by decide)] at hacc
                simpa using hacc
              clear hacc hc c10 c35
              go_wp2_with fail
              go_roundw
              case rel => exact ⟨k + 1, _, _, _, acc, by omega, by go_num, rfl, rfl, by omega, ha.out, Or.inl ⟨rfl, rfl⟩, HO.out, hx⟩
              case measure => simp [intOf]; omega
            · skip
              by_cases c32 : s[k] = 32
              · have hc := c32
                have t10 : ((((s[k]).toNat : Nat) : Int) == 10) = false := u8_neq s[k] 10 (by rw [hc]; decide)
                have t35 : ((((s[k]).toNat : Nat) : Int) == 35) = false := u8_neq s[k] 35 (by rw [hc]; decide)
                have t32 : ((((s[k]).toNat : Nat) : Int) == 32) = true := u8_eq s[k] 32 hc
                have ha : Hid (acc ++ scan (s.data.toList.drop (k + 1)) (ln) ([]) true = ts) := by
                  show _ = _
                  rw [hc] at hacc
                  rw [scan_com _ _ _ _ (by decide)] at hacc
                  simpa using hacc
                clear hacc hc c10 c35 c32
                go_wp2_with fail
                go_roundw
                case rel => exact ⟨k + 1, _, _, _, acc, by omega, by go_num, rfl, rfl, by omega, ha.out, Or.inl ⟨rfl, rfl⟩, HO.out, hx⟩
                case measure => simp [intOf]; omega
              · skip
                have t10 : ((((s[k]).toNat : Nat) : Int) == 10) = false := u8_neq s[k] 10 c10
                have t35 : ((((s[k]).toNat : Nat) : Int) == 35) = false := u8_neq s[k] 35 c35
                have t32 : ((((s[k]).toNat : Nat) : Int) == 32) = false := u8_neq s[k] 32 c32
                have ha : Hid (acc ++ scan (s.data.toList.drop (k + 1)) (ln) ([]) true = ts) := by
                  show _ = _
                  rw [scan_com _ _ _ _ c10] at hacc
                  simpa using hacc
                clear hacc c10 c35 c32
                go_wp2_with fail
                go_roundw
                case rel => exact ⟨k + 1, _, _, _, acc, by omega, by go_num, rfl, rfl, by omega, ha.out, Or.inl ⟨rfl, rfl⟩, HO.out, hx⟩
                case measure => simp [intOf]; omega
        | false =>
          by_cases c10 : s[k] = 10
          · have hc := c10
            have t10 : ((((s[k]).toNat : Nat) : Int) == 10) = true := u8_eq s[k] 10 hc
            have t35 : ((((s[k]).toNat : Nat) : Int) == 35) = false := u8_neq s[k] 35 (by rw [hc]; decide)
            have t32 : ((((s[k]).toNat : Nat) : Int) == 32) = false := u8_neq s[k] 32 (by rw [hc]; decide)
            have ha : Hid (acc ++ scan (s.data.toList.drop (k + 1)) (ln + 1) ([]) false = ts) := by
              show _ = _
              rw [hc] at hacc
              rw [scan_nl] at hacc
              simpa using hacc
            clear hacc hc c10
            go_wp2_with fail
            go_roundw
            case rel => exact ⟨k + 1, _, _, _, acc, by omega, by go_num, by go_num, rfl, by omega, ha.out, Or.inl ⟨rfl, rfl⟩, HO.out, hx⟩
            case measure => simp [intOf]; omega
          · skip
            by_cases c35 : s[k] = 35
            · have hc := c35
              have t10 : ((((s[k]).toNat : Nat) : Int) == 10) = false := u8_neq s[k] 10 (by rw [hc]; decide)
              have t35 : ((((s[k]).toNat : Nat) : Int) == 35) = true := u8_eq s[k] 35 hc
              have t32 : ((((s[k]).toNat : Nat) : Int) == 32) = false := u8_neq s[k] 32 (by rw [hc]; decide)
              have ha : Hid (acc ++ scan (s.data.toList.drop (k + 1)) (ln) ([]) true = ts) := by
                show _ = _
                rw [hc] at hacc
                rw [scan_hash] at hacc
                simpa using hacc
              clear hacc hc c10 c35
              go_wp2_with fail
              go_roundw
              case rel => exact ⟨k + 1, _, _, _, acc, by omega, by go_num, rfl, rfl, by omega, ha.out, Or.inl ⟨rfl, rfl⟩, HO.out, hx⟩
              case measure => simp [intOf]; omega
            · skip
              by_cases c32 : s[k] = 32
              · have hc := c32
                have t10 : ((((s[k]).toNat : Nat) : Int) == 10) = false := u8_neq s[k] 10 (by rw [hc]; decide)
                have t35 : ((((s[k]).toNat : Nat) : Int) == 35) = false := u8_neq s[k] 35 (by rw [hc]; decide)
                have t32 : ((((s[k]).toNat : Nat) : Int) == 32) = true := u8_eq s[k] 32 hc
                have ha : Hid (acc ++ scan (s.data.toList.drop (k + 1)) (ln) ([]) false = ts) := by
                  show _ = _
                  rw [hc] at hacc
                  rw [scan_sp] at hacc
                  simpa using hacc
                clear hacc hc c10 c35 c32
                go_wp2_with fail
                go_roundw
                case rel => exact ⟨k + 1, _, _, _, acc, by omega, by go_num, rfl, rfl, by omega, ha.out, Or.inl ⟨rfl, rfl⟩, HO.out, hx⟩
                case measure => simp [intOf]; omega
              · skip
                have t10 : ((((s[k]).toNat : Nat) : Int) == 10) = false := u8_neq s[k] 10 c10
                have t35 : ((((s[k]).toNat : Nat) : Int) == 35) = false := u8_neq s[k] 35 c35
                have t32 : ((((s[k]).toNat : Nat) : Int) == 32) = false := u8_neq s[k] 32 c32
                have ha : Hid (acc ++ scan (s.data.toList.drop (k + 1)) (ln) ([s[k]]) false = ts) := by
                  show _ = _
                  rw [scan_other _ _ _ _ c10 c35 c32] at hacc
                  simpa using hacc
                clear hacc c10 c35 c32
                go_wp2_with fail
                go_roundw
                case rel => exact ⟨k + 1, _, _, _, acc, by omega, by go_num, rfl, rfl, by omega, ha.out, Or.inr ⟨k, by omega, rfl, rfl, HXO.out.symm⟩, HO.out, hx⟩
                case measure => simp [intOf]; omega
      · have hne : cur ≠ [] := by rw [hcur]; exact ext_ne s f k hf (by omega)
        by_cases c10 : s[k] = 10
        · have hc := c10
          have t10 : ((((s[k]).toNat : Nat) : Int) == 10) = true := u8_eq s[k] 10 hc
          have t35 : ((((s[k]).toNat : Nat) : Int) == 35) = false := u8_neq s[k] 35 (by rw [hc]; decide)
          have t32 : ((((s[k]).toNat : Nat) : Int) == 32) = false := u8_neq s[k] 32 (by rw [hc]; decide)
          have ha : Hid ((acc ++ [(cur, ln)]) ++ scan (s.data.toList.drop (k + 1)) (ln + 1) [] false = ts) := by
            show _ = _
            rw [hc, scan_nl, if_neg hne] at hacc
            simpa using hacc
          clear hacc hne hc c10
          have hle : acc.length + 1 ≤ s.size := by
            have := congrArg List.length ha.out
            simp at this
            omega
          have hcell : Hid (holdCells ((acc ++ [(cur, ln)]).map tokH) = holdCells (acc.map tokH) ++ [.string (s.extract f k), .int .i64 (ln : Int)]) := by
            show _ = _
            rw [List.map_append, List.map_cons, List.map_nil, holdCells_snoc, hcur]
            rfl
          have HCU := Lib.hid hcur
          clear hcur
          go_wp2_with (at_builtin; refine wpList_append_own _ rfl (.tmp 47) (.tmp 54) _ rfl w.heap.size 64 i0 _ 2 24 Tryd.underlying60 hi hz0 hz1 hz2 rfl (by omega) _ _ _ rfl (HO.out.alloc _) ⟨wr.heap.size, 0, none⟩ 1 1 [.string (s.extract f k), .int .i64 (ln : Int)] rfl rfl ?c1 ?c2 ?c3 ?c4 ?c5 ?_)
          case c1 =>
            intro j u hu
            match j, hu with
            | 0, hu => simp at hu; subst hu; go_cell
            | 1, hu => simp at hu; subst hu; simp [Addr.add]
          case c2 =>
            intro u hu
            simp at hu
            rcases hu with rfl | rfl <;> rfl
          case c3 => unfold maxLen; omega
          case c4 => omega
          case c5 => (have hc5 := hx.size; try simp at hc5); simp; omega
          intro v' w2 hown2 hgr _
          have hx3 := (hx.alloc (.cells #[.string (s.extract f k), .int .i64 (ln : Int)] 64)).grown hgr (fun k hk => (HO.out.lt k hk).1)
          have HO2 := Lib.hid hown2
          have HG := Lib.hid hgr
          clear hown2 hgr
          go_wp2_with fail
          go_roundw
          case rel => exact ⟨k + 1, _, _, _, _, by omega, by go_num, by go_num, rfl, by omega, ha.out, Or.inl ⟨rfl, rfl⟩, by rw [hcell.out, List.length_append]; exact HO2.out, hx3⟩
          case measure => simp [intOf]; omega
        · skip
          by_cases c35 : s[k] = 35
          · have hc := c35
            have t10 : ((((s[k]).toNat : Nat) : Int) == 10) = false := u8_neq s[k] 10 (by rw [hc]; decide)
            have t35 : ((((s[k]).toNat : Nat) : Int) == 35) = true := u8_eq s[k] 35 hc
            have t32 : ((((s[k]).toNat : Nat) : Int) == 32) = false := u8_neq s[k] 32 (by rw [hc]; decide)
            have ha : Hid ((acc ++ [(cur, ln)]) ++ scan (s.data.toList.drop (k + 1)) (ln) [] true = ts) := by
              show _ = _
              rw [hc, scan_hash, if_neg hne] at hacc
              simpa using hacc
            clear hacc hne hc c10 c35
            have hle : acc.length + 1 ≤ s.size := by
              have := congrArg List.length ha.out
              simp at this
              omega
            have hcell : Hid (holdCells ((acc ++ [(cur, ln)]).map tokH) = holdCells (acc.map tokH) ++ [.string (s.extract f k), .int .i64 (ln : Int)]) := by
              show _ = _
              rw [List.map_append, List.map_cons, List.map_nil, holdCells_snoc, hcur]
              rfl
            have HCU := Lib.hid hcur
            clear hcur
            go_wp2_with (at_builtin; refine wpList_append_own _ rfl (.tmp 47) (.tmp 54) _ rfl w.heap.size 64 i0 _ 2 24 Tryd.underlying60 hi hz0 hz1 hz2 rfl (by omega) _ _ _ rfl (HO.out.alloc _) ⟨wr.heap.size, 0, none⟩ 1 1 [.string (s.extract f k), .int .i64 (ln : Int)] rfl rfl ?c1 ?c2 ?c3 ?c4 ?c5 ?_)
            case c1 =>
              intro j u hu
              match j, hu with
              | 0, hu => simp at hu; subst hu; go_cell
              | 1, hu => simp at hu; subst hu; simp [Addr.add]
            case c2 =>
              intro u hu
              simp at hu
              rcases hu with rfl | rfl <;> rfl
            case c3 => unfold maxLen; omega
            case c4 => omega
            case c5 => (have hc5 := hx.size; try simp at hc5); simp; omega
            intro v' w2 hown2 hgr _
            have hx3 := (hx.alloc (.cells #[.string (s.extract f k), .int .i64 (ln : Int)] 64)).grown hgr (fun k hk => (HO.out.lt k hk).1)
            have HO2 := Lib.hid hown2
            have HG := Lib.hid hgr
            clear hown2 hgr
            go_wp2_with fail
            go_roundw
            case rel => exact ⟨k + 1, _, _, _, _, by omega, by go_num, rfl, rfl, by omega, ha.out, Or.inl ⟨rfl, rfl⟩, by rw [hcell.out, List.length_append]; exact HO2.out, hx3⟩
            case measure => simp [intOf]; omega
          · skip
            by_cases c32 : s[k] = 32
            · have hc := c32
              have t10 : ((((s[k]).toNat : Nat) : Int) == 10) = false := u8_neq s[k] 10 (by rw [hc]; decide)
              have t35 : ((((s[k]).toNat : Nat) : Int) == 35) = false := u8_neq s[k] 35 (by rw [hc]; decide)
              have t32 : ((((s[k]).toNat : Nat) : Int) == 32) = true := u8_eq s[k] 32 hc
              have ha : Hid ((acc ++ [(cur, ln)]) ++ scan (s.data.toList.drop (k + 1)) (ln) [] false = ts) := by
                show _ = _
                rw [hc, scan_sp, if_neg hne] at hacc
                simpa using hacc
              clear hacc hne hc c10 c35 c32
              have hle : acc.length + 1 ≤ s.size := by
                have := congrArg List.length ha.out
                simp at this
                omega
              have hcell : Hid (holdCells ((acc ++ [(cur, ln)]).map tokH) = holdCells (acc.map tokH) ++ [.string (s.extract f k), .int .i64 (ln : Int)]) := by
                show _ = _
                rw [List.map_append, List.map_cons, List.map_nil, holdCells_snoc, hcur]
                rfl
              have HCU := Lib.hid hcur
              clear hcur
              go_wp2_with (at_builtin; refine wpList_append_own _ rfl (.tmp 47) (.tmp 54) _ rfl w.heap.size 64 i0 _ 2 24 Tryd.underlying60 hi hz0 hz1 hz2 rfl (by omega) _ _ _ rfl (HO.out.alloc _) ⟨wr.heap.size, 0, none⟩ 1 1 [.string (s.extract f k), .int .i64 (ln : Int)] rfl rfl ?c1 ?c2 ?c3 ?c4 ?c5 ?_)
              case c1 =>
                intro j u hu
                match j, hu with
                | 0, hu => simp at hu; subst hu; go_cell
                | 1, hu => simp at hu; subst hu; simp [Addr.add]
              case c2 =>
                intro u hu
                simp at hu
                rcases hu with rfl | rfl <;> rfl
              case c3 => unfold maxLen; omega
              case c4 => omega
              case c5 => (have hc5 := hx.size; try simp at hc5); simp; omega
              intro v' w2 hown2 hgr _
              have hx3 := (hx.alloc (.cells #[.string (s.extract f k), .int .i64 (ln : Int)] 64)).grown hgr (fun k hk => (HO.out.lt k hk).1)
              have HO2 := Lib.hid hown2
              have HG := Lib.hid hgr
              clear hown2 hgr
              go_wp2_with fail
              go_roundw
              case rel => exact ⟨k + 1, _, _, _, _, by omega, by go_num, rfl, rfl, by omega, ha.out, Or.inl ⟨rfl, rfl⟩, by rw [hcell.out, List.length_append]; exact HO2.out, hx3⟩
              case measure => simp [intOf]; omega
            · skip
              have t10 : ((((s[k]).toNat : Nat) : Int) == 10) = false := u8_neq s[k] 10 c10
              have t35 : ((((s[k]).toNat : Nat) : Int) == 35) = false := u8_neq s[k] 35 c35
              have t32 : ((((s[k]).toNat : Nat) : Int) == 32) = false := u8_neq s[k] 32 c32
              have ha : Hid (acc ++ scan (s.data.toList.drop (k + 1)) ln (cur ++ [s[k]]) false = ts) := by
                show _ = _
                rw [scan_other _ _ _ _ c10 c35 c32] at hacc
                exact hacc
              have hcu2 : Hid (cur ++ [s[k]] = (s.extract f (k + 1)).data.toList) := by
                show _ = _
                rw [ext_snoc s f k (by omega) hlt, hcur]
              clear hacc hcur hne c10 c35 c32
              go_wp2_with fail
              go_roundw
              case rel => exact ⟨k + 1, _, _, _, acc, by omega, by go_num, rfl, rfl, by omega, ha.out, Or.inr ⟨f, by omega, rfl, rfl, hcu2.out⟩, HO.out, hx⟩
              case measure => simp [intOf]; omega
    · obtain rfl : k = s.size := by omega
      rw [List.drop_of_length_le (show s.data.toList.length ≤ s.size from Nat.le_refl _)] at hacc
      rcases hfrom with ⟨rfl, rfl⟩ | ⟨f, hf, rfl, rfl, hcur⟩
      · have ha : Hid (acc = ts) := by show _ = _; simpa [scan] using hacc
        clear hacc
        cases com with
        | true =>
          go_wp2_with fail
          go_ret
          exact ⟨_, rfl, by rw [← ha.out]; exact HO.out, hx⟩
        | false =>
          go_wp2_with fail
          go_ret
          exact ⟨_, rfl, by rw [← ha.out]; exact HO.out, hx⟩
      · have hne : cur ≠ [] := by rw [hcur]; exact ext_ne s f s.size hf (by omega)
        have ha : Hid (acc ++ [(cur, ln)] = ts) := by show _ = _; simpa [scan, hne] using hacc
        clear hacc hne
        have hle : acc.length + 1 ≤ s.size := by
          have := congrArg List.length ha.out
          simp at this
          omega
        have hcell : Hid (holdCells ((acc ++ [(cur, ln)]).map tokH) = holdCells (acc.map tokH) ++ [.string (s.extract f s.size), .int .i64 (ln : Int)]) := by
          show _ = _
          rw [List.map_append, List.map_cons, List.map_nil, holdCells_snoc, hcur]
          rfl
        have HCU := Lib.hid hcur
        clear hcur
        go_wp2_with (at_builtin; refine wpList_append_own _ rfl (.tmp 47) (.tmp 54) _ rfl w.heap.size 64 i0 _ 2 24 Tryd.underlying60 hi hz0 hz1 hz2 rfl (by omega) _ _ _ rfl (HO.out.alloc _) ⟨wr.heap.size, 0, none⟩ 1 1 [.string (s.extract f s.size), .int .i64 (ln : Int)] rfl rfl ?c1 ?c2 ?c3 ?c4 ?c5 ?_)
        case c1 =>
          intro j u hu
          match j, hu with
          | 0, hu => simp at hu; subst hu; go_cell
          | 1, hu => simp at hu; subst hu; simp [Addr.add]
        case c2 =>
          intro u hu
          simp at hu
          rcases hu with rfl | rfl <;> rfl
        case c3 => unfold maxLen; omega
        case c4 => omega
        case c5 => (have hc5 := hx.size; try simp at hc5); simp; omega
        intro v' w2 hown2 hgr _
        have hx3 := (hx.alloc (.cells #[.string (s.extract f s.size), .int .i64 (ln : Int)] 64)).grown hgr (fun k hk => (HO.out.lt k hk).1)
        have HO2 := Lib.hid hown2
        have HG := Lib.hid hgr
        clear hown2 hgr
        go_wp2_with fail
        go_ret
        refine ⟨_, rfl, ?_, hx3⟩
        rw [← ha.out, hcell.out, List.length_append]
        exact HO2.out

set_option maxHeartbeats 2000000 in
set_option maxRecDepth 100000 in
theorem rWords_any (s : ByteArray) (w : World) (hs : s.size < 1000000000) :
    Calls Tryd.prog 20 #[.string s] w fun e w' => ∃ v, e = .returned v ∧ w'.ownsRow w.heap.size 9 1 v (toks s.data.toList).length ((toks s.data.toList).map wordV) ∧ Ext w w' := by
  obtain ⟨i0, hi, hz0, hz1, hz2⟩ := info_parts Tryd.infoStr
  have hsl : s.data.toList.length = s.size := rfl
  have hlen := toks_length s.data.toList
  rw [hsl] at hlen
  have htk := fun W => rwords_any s W (by omega)
  generalize toks s.data.toList = ts at *
  obtain ⟨WL, hWL⟩ : ∃ WL, WL = ts.map wordV := ⟨_, rfl⟩
  rw [← hWL]
  have HWL := Lib.hid hWL
  clear hWL
  have T1 := Lib.hid htk
  clear htk hsl
  go_enter Tryd.func20, Tryd.ntmps20
  go_wp2_with fail
  refine (T1.out _).mono ?_
  rintro e w1 ⟨v, rfl, hown, hx0⟩
  have hx1 : Ext w w1 := ((Ext.refl w).alloc _).trans hx0
  have HV := Lib.hid hown
  have HE := Lib.hid (own_ext (own_empty w w.heap.size 9 1 (Nat.le_refl _)) hx0)
  obtain ⟨A, cap, rfl, hl1⟩ : ∃ A cap, v = .slice A ts.length cap ∧ HLst w1 A ts.length cap (ts.map tokH) := by
    have := HLst.of_own (l := ts.map tokH) (by rw [List.length_map]; exact hown)
    rwa [List.length_map] at this
  clear hown
  have hroom := hl1.room
  have hmax := hl1.max
  unfold maxLen at hmax
  clear hl1
  go_wp2_with fail
  go_loopw [3, 5] (fun o i wr => ∃ k : Nat, k ≤ ts.length ∧ i = .int .i64 k ∧ wr.ownsRow w.heap.size 9 1 o k (WL.take k) ∧ wr.ownsRow (w.alloc (.cells #[] 9)).heap.size 64 2 (.slice A ts.length cap) ts.length (holdCells (ts.map tokH)) ∧ Ext w wr) (fun _ i _ => ts.length - (intOf i).toNat)
  case atStart => exact ⟨0, Nat.zero_le _, rfl, HE.out, HV.out, hx1⟩
  case round =>
    obtain ⟨k, hk, rfl, hown, hvs, hx⟩ := hrel
    have HV := Lib.hid hvs
    have HO := Lib.hid hown
    clear hown hvs
    by_cases hlt : k < ts.length
    · obtain ⟨A2, cap2, hA2, hl⟩ := HLst.of_own (l := ts.map tokH) (by rw [List.length_map]; exact HV.out)
      rw [List.length_map] at hl hA2
      injection hA2 with h1 h2 h3
      subst h1
      subst h3
      clear h2
      obtain ⟨b, off, rfl, hc⟩ := hl.at_ (by omega)
      have hc1 := (hc k (by rw [List.length_map]; exact hlt)).1
      rw [List.getElem_map] at hc1
      have htake : Hid (WL.take (k + 1) = WL.take k ++ [.string (BA ts[k].1)]) := by
        show _ = _
        rw [HWL.out, List.take_succ_eq_append_getElem (by rw [List.length_map]; exact hlt), List.getElem_map]; rfl
      generalize hcl : holdCells (ts.map tokH) = CL at HV hc hl ⊢
      generalize ts[k] = t at *
      unfold tokH at hc1
      simp only at hc1
      clear hc hl
      generalize BA t.1 = x at *
      go_wp2_with (at_builtin; refine wpList_append_own _ rfl (.tmp 15) (.tmp 21) _ rfl w.heap.size 9 i0 _ 1 16 Tryd.underlying37 hi hz0 hz1 hz2 rfl (by omega) _ _ _ rfl (HO.out.alloc _) ⟨wr.heap.size, 0, none⟩ 1 1 [.string x] rfl rfl ?c1 ?c2 ?c3 ?c4 ?c5 ?_)
      case c1 =>
        intro j u hu
        match j, hu with
        | 0, hu => simp at hu; subst hu; go_cell
      case c2 =>
        intro u hu
        simp at hu
        subst hu; rfl
      case c3 => unfold maxLen; omega
      case c4 => omega
      case c5 => (have hc5 := hx.size; try simp at hc5); simp; omega
      intro v' w2 hown2 hgr _
      have hx3 := (hx.alloc (.cells #[.string x] 9)).grown hgr (fun k hk => (HO.out.lt k hk).1)
      have HO2 := Lib.hid hown2
      have HG := Lib.hid hgr
      clear hown2 hgr
      have HV2 := Lib.hid ((HV.out.alloc (.cells #[.string x] 9)).kept HG.out (own_apart (HV.out.alloc (.cells #[.string x] 9)) (HO.out.alloc (.cells #[.string x] 9)) (by decide)))
      go_wp2_with fail
      go_roundw
      case rel =>
        refine ⟨k + 1, by omega, by go_num, ?_, ?_, hx3⟩
        · rw [htake.out]
          exact HO2.out
        · exact HV2.out
      case measure => simp [intOf]; omega
    · obtain rfl : k = ts.length := by omega
      rw [List.take_of_length_le (by rw [HWL.out, List.length_map]; exact Nat.le_refl _)] at HO
      go_wp2_with fail
      go_ret
      exact ⟨_, rfl, HO.out, hx⟩
end Go.Proofs.YtimegcnpembhkaaDoor
