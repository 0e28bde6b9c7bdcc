/- The contract of bitmap.decode (layer 52). -/
import Derived.Test.YthanegmaipckdaaDoorBitIndex
import Derived.Test.YthanegmaipckdaaDoorBitDecP
import Derived.Test.YthanegmaipckdaaDoorBitOwn
import Derived.Test.YthanegmaipckdaaDoorBitRefExp
import Derived.IntWalk
import Derived.WalkSpells
namespace Go.Proofs.YthanegmaipckdaaDoor
open Go.RowKit
open Go.Lib hiding intOf
open Dec
attribute [local simp] Slots Slot look Is Oper.looksAt Op.operands Call.operands
set_option linter.unusedVariables false

/-- the library's error of syntax is some error -/
def Sy (w : World) : Prop := ∃ ev, w.cell? ⟨1, 0, none⟩ = some ev ∧ (ev = .nilIface ∨ ∃ te pe, ev = .iface te pe)
theorem Sy.ext {w w' : World} (h : Sy w) (hx : Ext w w') : Sy w' := let ⟨ev, h1, h2⟩ := h; ⟨ev, hx.cell h1, h2⟩

/-- strconv.Atoi at a short string -/
theorem atoi_yes (p : Bytes) (v : Int) (hp : p.length ≤ 5) (h : Lib.atoi p = some v) (w : World) :
    Calls Tryd.prog 36 #[.string (BA p)] w fun e w' => e = .returned (.tuple #[.int .i64 v, .nilIface]) ∧ Ext w w' := by
  refine (Tryd.strconv_Atoi (BA p) v (by rw [BA_size]; omega) h w).mono ?_
  rintro e w' ⟨rfl, t, rfl⟩
  exact ⟨rfl, Lib.bytesWorld_below _ _ _⟩
theorem atoi_no (p : Bytes) (hp : p.length ≤ 5) (h : Lib.atoi p = none) (w : World) (hs : Sy w) :
    Calls Tryd.prog 36 #[.string (BA p)] w fun e w' => ∃ N, e = .returned (.tuple #[.int .i64 0, .iface 94 (.pointer (some ⟨N, 0, none⟩))]) ∧ Ext w w' := by
  obtain ⟨ev, h1, h2⟩ := hs
  refine (Tryd.strconv_Atoi_err (BA p) (by rw [BA_size]; omega) h ev w h1 h2).mono ?_
  rintro e w' ⟨N, rfl, _, _, hx⟩
  exact ⟨N, rfl, hx⟩

theorem enc_small (c : UInt8) (h : c.toNat < 128) : Utf8.encode (c.toNat : Int) = BA [c] := by
  have key : ∀ m : Fin 128, Utf8.encode ((m.val : Nat) : Int) = BA [UInt8.ofNat m.val] := by decide +kernel
  have := key ⟨c.toNat, h⟩
  simp only [UInt8.ofNat_toNat] at this
  exact this
theorem px_small {c : UInt8} (h : isPx c = true) : c.toNat < 128 := by
  simp only [isPx, List.contains_cons, List.contains_nil, Bool.or_false, Bool.or_eq_true, beq_iff_eq] at h
  rcases h with rfl | rfl <;> decide
def szOf : Value → Nat
  | .string q => q.size
  | _ => 0
/-- decode has failed, or read the whole -/
def DecPost (w : World) (R : Bytes × Nat × Bool) (e : Ending) (w' : World) : Prop := e = .returned (.tuple #[.string (BA R.1), .int .i64 (R.2.1 : Int), .bool R.2.2]) ∧ Ext w w'
theorem dec_fail (w w' : World) (hx : Ext w w') : DecPost w ([], 0, false) (.returned (.tuple #[.string ⟨#[]⟩, .int .i64 0, .bool false])) w' := ⟨rfl, hx⟩

set_option maxHeartbeats 8000000 in
set_option maxRecDepth 100000 in
theorem bdecode_any (s : ByteArray) (w : World) (hs : s.size ≤ 1000000) (hE : Env w) (hY : Sy w) :
    Calls Tryd.prog 21 #[.string s] w (DecPost w (decS s.data.toList)) := by
  have hsl : s.data.toList.length = s.size := rfl
  obtain ⟨R, hR⟩ : ∃ R, R = decS s.data.toList := ⟨_, rfl⟩
  rw [← hR]
  have hfail : Hid (parseR 0 s.data.toList = none → R = ([], 0, false)) := by intro h; rw [hR]; unfold decS; rw [h]
  have hgood : Hid (∀ rs, parseR 0 s.data.toList = some rs → R = ((cellsR rs).take 40000, totR rs, true)) := by intro rs h; rw [hR]; unfold decS; rw [h]
  have hst := Lib.hid (ReadS.start s.data.toList)
  have hLs : s = BA (s.data.toList.drop 0) := rfl
  generalize s.data.toList = L at *
  have HSL := Lib.hid hsl
  have HLS := Lib.hid hLs
  clear hR hsl hLs
  go_enter Tryd.func21, Tryd.ntmps21
  go_wp2_with fail
  have hb0 := Lib.hid (Bld.fresh w (w.alloc (.cells #[.pointer none, .slice none 0 0] 45)) w.heap.size w.heap.size (Nat.le_refl _) (World.alloc_heap_new w _))
  go_loopw [0, 6, 7] (fun qv tv lv wr => ∃ (pre : List (Nat × UInt8)) (i : Nat) (last : UInt8), qv = .string (BA (L.drop i)) ∧ i ≤ s.size ∧ lv = .int .u8 (last.toNat : Int) ∧ tv = .int .i64 (totR pre : Int) ∧ totR pre ≤ 100000 * i ∧ ReadS L pre i last ∧ Bld w.heap.size w.heap.size ((cellsR pre).take 40000) wr ∧ Ext w wr) (fun qv _ _ _ => szOf qv)
  case atStart => exact ⟨[], 0, 0, by rw [← HLS.out], Nat.zero_le _, rfl, rfl, Nat.le_refl _, hst.out, hb0.out, (Ext.refl _).alloc _⟩
  case round =>
    obtain ⟨pre, i, last, rfl, hib, rfl, rfl, htot, hrd, hb, hx⟩ := hrel
    have HRD := Lib.hid hrd
    have HB := Lib.hid hb
    clear hrd hb
    generalize htp : totR pre = tp at *
    have HTP := Lib.hid htp
    clear htp
    have hql : (L.drop i).length = s.size - i := by rw [List.length_drop, HSL.out]
    by_cases hlt : i < s.size
    · have hstop : Hid (headR (L.drop i) = none → R = ([], 0, false)) := fun h => hfail.out (HRD.out.stop (by rw [HSL.out]; exact hlt) h)
      have hsame : Hid (∀ n r, headR (L.drop i) = some (n, last, r) → R = ([], 0, false)) := fun n r h => hfail.out (HRD.out.same h)
      generalize hq : L.drop i = q at *
      have HQ := Lib.hid hq
      have hne : ((BA q).toList == []) = false := by
        rw [beq_eq_false_iff_ne, ByteArray.toList_eq]
        intro e
        have : q = [] := e
        rw [this] at hql
        simp at hql
        omega
      have hne' : ¬ ((BA q).toList = []) := by simpa using hne
      have hqz : (BA q).size = q.length := BA_size q
      have hqz1 : (BA q).size ≤ 1000000 := by omega
      have hidx := fun W => indexAny_px (BA q) W (by omega)
      rw [BA_data] at hidx
      cases hh : headR q with
      | none =>
        have hpn := Lib.hid (hstop.out hh)
        rcases idx_none hh with h1 | h2 | ⟨p, c, r, hp1, hp2, hp3, hp4⟩
        · generalize indexAny q [46, 35] = ix at *
          have HIX := Lib.hid hidx
          clear hidx hh hq
          go_wp2_with fail
          refine (HIX.out _).mono ?_
          rintro e w1 ⟨rfl, hx1⟩
          go_wp2_with fail
          refine bodyPost_ret (results_tmp3 rfl _ _ _) rfl ?_
          rw [hpn.out]
          exact dec_fail _ _ (hx.trans hx1)
        · have h3 : ¬ (indexAny q [46, 35] < 0) := by omega
          generalize indexAny q [46, 35] = ix at *
          have HIX := Lib.hid hidx
          clear hidx hh hq
          go_wp2_with fail
          refine (HIX.out _).mono ?_
          rintro e w1 ⟨rfl, hx1⟩
          go_wp2_with fail
          refine bodyPost_ret (results_tmp3 rfl _ _ _) rfl ?_
          rw [hpn.out]
          exact dec_fail _ _ (hx.trans hx1)
        · rw [hp2] at hidx
          obtain ⟨c1, c2, c3, c4⟩ := cut_facts q p r c hp1
          obtain ⟨e, he⟩ : ∃ e, e = p.length := ⟨_, rfl⟩
          rw [← he] at hidx c1 c2 c3 c4 hp3
          have hext : (BA q).extract 0 e = BA p := by rw [ext_BA, BA_data, List.drop_zero, Nat.sub_zero, c1]
          have hpl : p.length ≤ 5 := by omega
          have hpz : (BA p).size ≤ 5 := by rw [BA_size]; omega
          have hel : e ≤ (BA q).size := by omega
          have HIX := Lib.hid hidx
          have hE2 := hE.ext hx
          have hY2 := hY.ext hx
          rcases hp4 with hp4 | ⟨v, hv1, hv2⟩
          · have hat := fun W (hW : Sy W) => atoi_no p hpl hp4 W hW
            have HAT := Lib.hid hat
            have HEX := Lib.hid hext
            clear hidx hh hq hp1 hp2 c1 c2 c3 he hp4 hat hpl hext hqz hql
            generalize BA p = P at *
            generalize BA q = Q at *
            have hext := HEX.out
            go_wp2_with fail
            refine (HIX.out _).mono ?_
            rintro e0 w1 ⟨rfl, hx1⟩
            go_wp2_with fail
            refine (HAT.out _ (hY2.ext hx1)).mono ?_
            rintro e0 w2 ⟨N, rfl, hx2⟩
            go_wp2_with fail
            refine wp_region_grow (by kernel_rfl) (by kernel_rfl) ?_
            repeat
              first
              | (apply grow_is
                 case h =>
                  intro a w1 hg hs hsl
                  clear hs
                  try simp at hsl
                  try (first | (refine Exists.elim (row_spec hsl) ?_; rintro b ⟨hv, _, hh⟩) | (refine Exists.elim (row_spec hsl.1) ?_; rintro b ⟨hv, _, hh⟩))
                  unfold growAt guardOk
                  go_simp
                  try go_bits
                  try simp only [↓IntWalk.iteOmega]
                  first
                    | exact grow_same
                    | exact is_skip
                    | exact rfl)
            refine grow_fin ?_
            intro w1 hw1
            simp only [List.reverse_cons, List.reverse_nil, List.nil_append, List.cons_append, FinT, Is, forall_eq, List.setIfInBounds_toArray, List.set_cons_succ, List.set_cons_zero]
            go_wp2_with fail
            refine bodyPost_ret (results_tmp3 rfl _ _ _) rfl ?_
            rw [hpn.out]
            exact dec_fail _ _ (((hx.trans hx1).trans hx2).trans hw1)
          · have hat := fun W => atoi_yes p v hpl hv1 W
            have HAT := Lib.hid hat
            have HEX := Lib.hid hext
            rcases hv2 with hv2 | hv2 | ⟨hv2, hv3, hv4⟩
            · clear hidx hh hq hp1 hp2 c1 c2 c3 he hat hpl hext hqz hql hv1
              generalize BA p = P at *
              generalize BA q = Q at *
              have hext := HEX.out
              go_wp2_with fail
              refine (HIX.out _).mono ?_
              rintro e0 w1 ⟨rfl, hx1⟩
              go_wp2_with fail
              refine (HAT.out _).mono ?_
              rintro e0 w2 ⟨rfl, hx2⟩
              go_wp2_with fail
              refine wp_region_grow (by kernel_rfl) (by kernel_rfl) ?_
              repeat
                first
                | (apply grow_is
                   case h =>
                    intro a w1 hg hs hsl
                    clear hs
                    try simp at hsl
                    try (first | (refine Exists.elim (row_spec hsl) ?_; rintro b ⟨hv, _, hh⟩) | (refine Exists.elim (row_spec hsl.1) ?_; rintro b ⟨hv, _, hh⟩))
                    unfold growAt guardOk
                    go_simp
                    try go_bits
                    try simp only [↓IntWalk.iteOmega]
                    first
                      | exact grow_same
                      | exact is_skip
                      | exact rfl)
              refine grow_fin ?_
              intro w1 hw1
              simp only [List.reverse_cons, List.reverse_nil, List.nil_append, List.cons_append, FinT, Is, forall_eq, List.setIfInBounds_toArray, List.set_cons_succ, List.set_cons_zero]
              go_wp2_with fail
              refine bodyPost_ret (results_tmp3 rfl _ _ _) rfl ?_
              rw [hpn.out]
              exact dec_fail _ _ (((hx.trans hx1).trans hx2).trans hw1)
            · have hv5 : ¬ v < 1 := by omega
              clear hidx hh hq hp1 hp2 c1 c2 c3 he hat hpl hext hqz hql hv1
              generalize BA p = P at *
              generalize BA q = Q at *
              have hext := HEX.out
              go_wp2_with fail
              refine (HIX.out _).mono ?_
              rintro e0 w1 ⟨rfl, hx1⟩
              go_wp2_with fail
              refine (HAT.out _).mono ?_
              rintro e0 w2 ⟨rfl, hx2⟩
              go_wp2_with fail
              refine wp_region_grow (by kernel_rfl) (by kernel_rfl) ?_
              repeat
                first
                | (apply grow_is
                   case h =>
                    intro a w1 hg hs hsl
                    clear hs
                    try simp at hsl
                    try (first | (refine Exists.elim (row_spec hsl) ?_; rintro b ⟨hv, _, hh⟩) | (refine Exists.elim (row_spec hsl.1) ?_; rintro b ⟨hv, _, hh⟩))
                    unfold growAt guardOk
                    go_simp
                    try go_bits
                    try simp only [↓IntWalk.iteOmega]
                    first
                      | exact grow_same
                      | exact is_skip
                      | exact rfl)
              refine grow_fin ?_
              intro w1 hw1
              simp only [List.reverse_cons, List.reverse_nil, List.nil_append, List.cons_append, FinT, Is, forall_eq, List.setIfInBounds_toArray, List.set_cons_succ, List.set_cons_zero]
              go_wp2_with fail
              refine bodyPost_ret (results_tmp3 rfl _ _ _) rfl ?_
              rw [hpn.out]
              exact dec_fail _ _ (((hx.trans hx1).trans hx2).trans hw1)
            · have hv5 : ¬ v < 1 := by omega
              have hv6 : ¬ 99999 < v := by omega
              have hit := fun W (h : Env W) => itoa_any v (by omega) (by omega) W h
              have hi1 : ((BA (Lib.itoa v)).toList == (BA p).toList) = false := by
                rw [beq_eq_false_iff_ne, ByteArray.toList_eq, ByteArray.toList_eq, BA_data, BA_data]
                exact hv4
              have hi2 : ¬ (BA (Lib.itoa v)).toList = (BA p).toList := by simpa using hi1
              have HIT := Lib.hid hit
              clear hidx hh hq hp1 hp2 c1 c2 c3 he hat hpl hext hqz hql hv1 hv4 hit
              generalize BA (Lib.itoa v) = I at *
              generalize BA p = P at *
              generalize BA q = Q at *
              have hext := HEX.out
              go_wp2_with fail
              refine (HIX.out _).mono ?_
              rintro e0 w1 ⟨rfl, hx1⟩
              go_wp2_with fail
              refine (HAT.out _).mono ?_
              rintro e0 w2 ⟨rfl, hx2⟩
              have HE3 := Lib.hid ((hE2.ext hx1).ext hx2)
              go_wp2_with fail
              refine wp_region_grow (by kernel_rfl) (by kernel_rfl) ?_
              repeat
                first
                | (apply grow_is
                   case h =>
                    intro a w1 hg hs hsl
                    clear hs
                    try simp at hsl
                    try (first | (refine Exists.elim (row_spec hsl) ?_; rintro b ⟨hv, _, hh⟩) | (refine Exists.elim (row_spec hsl.1) ?_; rintro b ⟨hv, _, hh⟩))
                    unfold growAt guardOk
                    go_simp
                    try go_bits
                    try simp only [↓IntWalk.iteOmega]
                    first
                      | exact grow_same
                      | exact is_skip
                      | exact rfl
                      | with_reducible exact grow_call_ext (HIT.out _ (HE3.out.ext hg)))
              refine grow_fin ?_
              intro w1 hw1
              simp only [List.reverse_cons, List.reverse_nil, List.nil_append, List.cons_append, FinT, Is, forall_eq, List.setIfInBounds_toArray, List.set_cons_succ, List.set_cons_zero]
              go_wp2_with fail
              refine bodyPost_ret (results_tmp3 rfl _ _ _) rfl ?_
              rw [hpn.out]
              exact dec_fail _ _ (((hx.trans hx1).trans hx2).trans hw1)
      | some x =>
        obtain ⟨n, c, r⟩ := x
        obtain ⟨hq2, hn1, hn2, hpc⟩ := headR_some hh
        rw [idx_some hh] at hidx
        obtain ⟨c1, c2, c3, c4⟩ := cut_facts q (decDigits n) r c hq2
        have hdl := dec_len (n := n) (k := 4) (by omega)
        have hat := fun W => atoi_yes (decDigits n) (n : Int) (by omega) (atoi_dec n) W
        have hit := fun W (h : Env W) => itoa_any (n : Int) (by omega) (by omega) W h
        rw [Lib.itoa_nonneg] at hit
        obtain ⟨e, he⟩ : ∃ e, e = (decDigits n).length := ⟨_, rfl⟩
        rw [← he] at hidx c1 c2 c3 c4 hdl
        have hext : (BA q).extract 0 e = BA (decDigits n) := by rw [ext_BA, BA_data, List.drop_zero, Nat.sub_zero, c1]
        have hpz : (BA (decDigits n)).size ≤ 5 := by rw [BA_size]; omega
        have hel : e < (BA q).size := by omega
        have hie : i + (e + 1) ≤ s.size := by omega
        have hqe : ∀ h : e < (BA q).size, (BA q)[e] = c := fun h => (List.getElem?_eq_some_iff.1 c2).2
        have hnq : L.drop (i + (e + 1)) = r := by rw [← List.drop_drop, HQ.out, c3]
        have hex2 : (BA q).extract (e + 1) (BA q).size = BA r := by
          rw [ext_BA, BA_data, c3, List.take_of_length_le]
          rw [← c3, List.length_drop]
          exact Nat.le_refl _
        have hrl : (BA r).size < (BA q).size := by rw [BA_size, BA_size, ← c3, List.length_drop]; omega
        have HIX := Lib.hid hidx
        have HAT := Lib.hid hat
        have HIT := Lib.hid hit
        have HEX := Lib.hid hext
        have HQE := Lib.hid hqe
        have HNQ := Lib.hid hnq
        have HEX2 := Lib.hid hex2
        have HH := Lib.hid hh
        have hE2 := hE.ext hx
        have hn1' : ¬ (n : Int) < 1 := by omega
        have hn2' : ¬ (99999 : Int) < (n : Int) := by omega
        by_cases hcl : c = last
        · have hpn := Lib.hid (hsame.out n r (by rw [hh, hcl]))
          have hc2 : ((c.toNat : Int) == (last.toNat : Int)) = true := by rw [hcl]; simp
          clear hidx hh hq hq2 c1 c2 c3 he hat hext hqz hql hit hqe hnq hex2 hcl hpc
          generalize BA (decDigits n) = P at *
          generalize BA q = Q at *
          have hext := HEX.out
          have hqe := HQE.out
          go_wp2_with fail
          refine (HIX.out _).mono ?_
          rintro e0 w1 ⟨rfl, hx1⟩
          go_wp2_with fail
          refine (HAT.out _).mono ?_
          rintro e0 w2 ⟨rfl, hx2⟩
          have HE3 := Lib.hid ((hE2.ext hx1).ext hx2)
          go_wp2_with fail
          refine wp_region_grow (by kernel_rfl) (by kernel_rfl) ?_
          repeat
            first
            | (apply grow_is
               case h =>
                intro a w1 hg hs hsl
                clear hs
                try simp at hsl
                try (first | (refine Exists.elim (row_spec hsl) ?_; rintro b ⟨hv, _, hh⟩) | (refine Exists.elim (row_spec hsl.1) ?_; rintro b ⟨hv, _, hh⟩))
                unfold growAt guardOk
                go_simp
                try go_bits
                try simp only [↓IntWalk.iteOmega]
                first
                  | exact grow_same
                  | exact is_skip
                  | exact rfl
                  | (rw [dif_pos (by omega)]; exact grow_same)
                  | with_reducible exact grow_call_ext (HIT.out _ (HE3.out.ext hg)))
          refine grow_fin ?_
          intro w1 hw1
          simp only [List.reverse_cons, List.reverse_nil, List.nil_append, List.cons_append, FinT, Is, forall_eq, List.setIfInBounds_toArray, List.set_cons_succ, List.set_cons_zero]
          go_wp2_with fail
          refine bodyPost_ret (results_tmp3 rfl _ _ _) rfl ?_
          rw [hpn.out]
          exact dec_fail _ _ (((hx.trans hx1).trans hx2).trans hw1)
        · have hc2 : ((c.toNat : Int) == (last.toNat : Int)) = false := by
            rw [beq_eq_false_iff_ne]; intro e; exact hcl (UInt8.toNat_inj.1 (by omega))
          have hc3 : ¬ ((c.toNat : Int) = (last.toNat : Int)) := by simpa using hc2
          have hcv : ∀ W, (convert 5 9 (.int .u8 (c.toNat : Int))).run Tryd.prog W = .ok (.string (BA [c])) W := fun W => by
            rw [run_convert_int_string W _ _ _ _ (by kernel_rfl) (by kernel_rfl), enc_small c (px_small hpc)]
          have HCV := Lib.hid hcv
          obtain ⟨kk, hkd⟩ : ∃ kk, kk = min n (40000 - tp) := ⟨_, rfl⟩
          have hkk : min (n : Int) (max (40000 - (tp : Int)) 0) = (kk : Int) := by omega
          have hrp := fun W => Tryd.strings_Repeat (BA [c]) kk W (by omega) (by rw [BA_size]; simp; omega)
          obtain ⟨RP, hRP⟩ : ∃ RP, RP = BA (List.replicate kk c) := ⟨_, rfl⟩
          have HRP : Hid (∀ W, Calls Tryd.prog 31 #[.string (BA [c]), .int .i64 (kk : Int)] W fun e w' => e = .returned (.string RP) ∧ Ext W w') := by
            intro W
            refine (hrp W).mono ?_
            rintro e w' ⟨rfl, hx⟩
            refine ⟨?_, hx⟩
            rw [hRP, ← repeatL_one]; rfl
          have hrz : RP.size ≤ 99999 := by rw [hRP, BA_size, List.length_replicate]; omega
          have hcl2 : ((cellsR pre).take 40000).length ≤ 40000 := by rw [List.length_take]; omega
          have hpl : (cellsR pre).length = tp := HTP.out
          have htk : Hid ((cellsR (pre ++ [(n, c)])).take 40000 = (cellsR pre).take 40000 ++ RP.data.toList) := by
            show _ = _
            rw [cellsR_snoc, take_cells, hpl, ← hkd, hRP, BA_data]
          have htn : Hid (((totR (pre ++ [(n, c)]) : Nat) : Int) = (tp : Int) + (n : Int)) := by
            show _ = _
            rw [totR_snoc, HTP.out]; omega
          have htb : totR (pre ++ [(n, c)]) ≤ 100000 * (i + (e + 1)) := by rw [totR_snoc, HTP.out]; omega
          have hcl := Lib.hid hcl
          generalize BA [c] = C1 at *
          clear hkd hrp hRP hpl
          clear hidx hh hq hq2 c1 c2 c3 he hat hext hqz hql hit hqe hnq hex2 hcv
          generalize BA (decDigits n) = P at *
          generalize BA q = Q at *
          have hext := HEX.out
          have hqe := HQE.out
          go_wp2_with fail
          refine (HIX.out _).mono ?_
          rintro e0 w1 ⟨rfl, hx1⟩
          go_wp2_with fail
          refine (HAT.out _).mono ?_
          rintro e0 w2 ⟨rfl, hx2⟩
          have HE3 := Lib.hid ((hE2.ext hx1).ext hx2)
          go_wp2_with fail
          refine wp_region_grow (by kernel_rfl) (by kernel_rfl) ?_
          repeat
            first
            | (apply grow_is
               case h =>
                intro a w1 hg hs hsl
                clear hs
                try simp at hsl
                try (first | (refine Exists.elim (row_spec hsl) ?_; rintro b ⟨hv, _, hh⟩) | (refine Exists.elim (row_spec hsl.1) ?_; rintro b ⟨hv, _, hh⟩))
                unfold growAt guardOk
                go_simp
                try go_bits
                try simp only [↓IntWalk.iteOmega]
                first
                  | exact grow_same
                  | exact is_skip
                  | exact rfl
                  | (rw [dif_pos (by omega)]; exact grow_same)
                  | with_reducible exact grow_call_ext (HIT.out _ (HE3.out.ext hg)))
          refine grow_fin ?_
          intro w1 hw1
          simp only [List.reverse_cons, List.reverse_nil, List.nil_append, List.cons_append, FinT, Is, forall_eq, List.setIfInBounds_toArray, List.set_cons_succ, List.set_cons_zero]
          have hcv := HCV.out
          go_wp2_with fail
          refine (HRP.out _).mono ?_
          rintro e0 w4 ⟨rfl, hx4⟩
          have hx04 := (((hx.trans hx1).trans hx2).trans hw1).trans hx4
          have HB4 := Lib.hid (HB.out.ext ((((hx1.trans hx2).trans hw1)).trans hx4))
          go_wp2_with fail
          refine (bld_str w.heap.size w.heap.size _ RP _ HB4.out (by omega) hx04.size).mono ?_
          rintro e0 w5 ⟨rfl, hb5, hbe5, hk5⟩
          have HB5 := Lib.hid hb5
          have HK5 := Lib.hid hk5
          clear hb5 hk5
          have hqe := HQE.out
          have hex2 := HEX2.out
          go_wp2_with fail
          go_roundw
          case rel =>
            refine ⟨pre ++ [(n, c)], i + (e + 1), c, by rw [HNQ.out], by omega, rfl, by rw [htn.out], htb, ?_, ?_, Below.trans hx04 hbe5⟩
            · have := HRD.out.next (j := i + (e + 1)) (by rw [HNQ.out, HQ.out]; exact HH.out) hcl.out
              exact this
            · rw [htk.out]; exact HB5.out
          case measure => show (BA r).size < Q.size; exact hrl
    · obtain rfl : i = s.size := by omega
      have hnil : L.drop s.size = [] := List.eq_nil_of_length_eq_zero (by omega)
      have hfin := Lib.hid (hgood.out pre (HRD.out.done (by rw [HSL.out]; exact Nat.le_refl _)))
      have h0 : (BA (L.drop s.size)).toList = [] := by rw [hnil, ByteArray.toList_eq]; rfl
      generalize BA (L.drop s.size) = Q at *
      have hs0 := hx.size
      clear hnil hql
      go_wp2_with fail
      refine (bld_string w.heap.size w.heap.size _ _ HB.out hs0).mono ?_
      rintro e0 w5 ⟨rfl, hb5, hk5⟩
      go_wp2_with fail
      refine bodyPost_ret (results_tmp3 rfl _ _ _) rfl ?_
      rw [hfin.out, HTP.out]
      exact ⟨rfl, Below.trans hx hb5⟩
end Go.Proofs.YthanegmaipckdaaDoor
