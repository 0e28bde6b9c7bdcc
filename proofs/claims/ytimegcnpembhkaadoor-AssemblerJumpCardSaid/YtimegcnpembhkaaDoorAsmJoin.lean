/- The contract of the assembler's join: the text and the labels. -/
import Derived.Test.YtimegcnpembhkaaDoorAsmCheck
import Derived.Test.YtimegcnpembhkaaDoorAsmNum
namespace Go.Proofs.YtimegcnpembhkaaDoor
open Go.RowKit
open Go.Lib hiding intOf
set_option linter.unusedVariables false

/-- the last byte of a text -/
def lastB (text : Bytes) : UInt8 := text.getLast?.getD 32
def headB (s : Bytes) : UInt8 := s.headD 32
def glue (text s : Bytes) : Bytes := (if (isDig (lastB text) && isDig (headB s)) = true then text ++ [32] else text) ++ s
/-- what a token adds -/
def addS (f : Bytes → Int) (t : Tok) : Bytes := match refN t.1 with
  | some n => sixA (f n)
  | none => t.1
/-- a label and its address -/
abbrev Lab := Bytes × Int
def buildA (f : Bytes → Int) (origin : Int) : Bytes → List Lab → List Tok → Bytes × List Lab
  | text, labs, [] => (text, labs)
  | text, labs, t :: r => match defN t.1 with
    | some n => buildA f origin text (labs ++ [(n, origin + text.length)]) r
    | none => buildA f origin (glue text (addS f t)) labs r
def labH (x : Lab) : Hold := (BA x.1, x.2)


theorem decDigits_le : ∀ u : Nat, (decDigits u).length ≤ u + 1 := by
  intro u
  induction u using Nat.strongRecOn with
  | _ u ih =>
    rw [decDigits]
    split
    · simp
    · have := ih (u / 10) (by omega)
      simp
      omega
theorem itoa_le (n : Int) (h : 0 ≤ n) : ((itoa n).length : Int) ≤ n + 1 := by
  unfold itoa
  rw [if_neg (by omega)]
  have := decDigits_le n.toNat
  omega

theorem ret_str {a b : ByteArray} (h : a = b) : Ending.returned (.string a) = .returned (.string b) := by rw [h]
theorem address_any (n : Int) (h0 : 0 ≤ n) (h1 : n ≤ 1099511627776) (w : World) (hE : Env w) :
    Calls Tryd.prog 57 #[.int .i64 n] w fun e w' => e = .returned (.string (BA (sixA n))) ∧ Ext w w' := by
  have hi := itoa_any n (by omega) (by omega) w hE
  have hp := itoa_pos n
  have hl := itoa_le n h0
  have hd := BA_data (itoa n)
  have hs := BA_size (itoa n)
  obtain ⟨q, hq⟩ : ∃ q, q = sixA n := ⟨_, rfl⟩
  rw [← hq]
  rw [← sixRaw_sixA n h0] at hq
  unfold sixRaw at hq
  generalize itoa n = r at *
  have hsz : (BA r).size = r.length := hs
  generalize hR : BA r = R at *
  have H := Lib.hid hi
  have HR := Lib.hid hR
  have HQ := Lib.hid hq
  have g1 : 1 ≤ R.size := by omega
  have g2 : (R.size : Int) ≤ 1099511627777 := by omega
  clear hi hd hs hsz hR hq
  go_enter Tryd.func57, Tryd.ntmps57
  go_wp2_with fail
  refine H.out.mono ?_
  rintro e w' ⟨rfl, hx⟩
  have hS : ((⟨#[48, 48, 48, 48, 48]⟩ : ByteArray) ++ R).size = 5 + R.size := by rw [ByteArray.size_append]; rfl
  go_wp2_with fail
  go_ret
  refine ⟨(ret_str ?_ : Ending.returned (.string ((({ data := #[48, 48, 48, 48, 48] } : ByteArray) ++ R).extract (5 + R.size - 6) (5 + R.size))) = _), hx⟩
  rw [HQ.out, ← HR.out]
  refine bytes_inj ?_
  have h1 : (({ data := #[48, 48, 48, 48, 48] } : ByteArray) ++ BA r).data.toList = [48, 48, 48, 48, 48] ++ r := by simp [BA]
  rw [BA_data]
  simp only [ByteArray.data_extract, Array.toList_extract, List.extract_eq_take_drop, h1]
  have e1 : ([48, 48, 48, 48, 48] ++ r).length = 5 + r.length := by simp; omega
  rw [List.take_of_length_le (by rw [List.length_drop, e1, BA_size]; omega), BA_size, e1]

theorem Tryd.infoSym : (Tryd.prog.info? 30).map (fun i => (i.zero, i.size, i.bytes)) = some (some (.agg #[.string ByteArray.empty, .int .i64 0]), 2, 24) := by kernel_rfl

theorem last_snoc (s : ByteArray) (h : 0 < s.size) : lastB s.data.toList = s[s.size - 1] := by
  have hl : s.data.toList.length = s.size := rfl
  unfold lastB
  rw [List.getLast?_eq_getElem?, hl, List.getElem?_eq_getElem (by omega)]
  rfl
theorem head_get (s : ByteArray) (h : 0 < s.size) : headB s.data.toList = s[0] := by
  rw [data_cons h]; rfl
theorem lastB_append (a b : Bytes) (h : b ≠ []) : lastB (a ++ b) = lastB b := by
  unfold lastB
  cases b with
  | nil => exact absurd rfl h
  | cons x xs => rw [List.getLast?_append, List.getLast?_eq_some_getLast h]; rfl

/-- the tokens are not empty and fit -/
def Fits2 (l : List Tok) : Prop := ∀ t ∈ l, t.1.length ≤ 100000 ∧ t.1 ≠ []
theorem sixA_length (n : Int) (h : 0 ≤ n) : (sixA n).length = 6 := by
  obtain ⟨m, rfl⟩ := Int.eq_ofNat_of_zero_le h
  rw [sixA_digs, digs_length]

set_option maxHeartbeats 4000000 in
set_option maxRecDepth 100000 in
theorem joined_any (A : Option Addr) (n cap : Nat) (l : List Tok) (origin : Int) (kv : Value) (f : Bytes → Int) (w : World) (hl : HLst w A n cap (l.map tokH)) (hf : Fits2 l) (hn : n ≤ 100000) (ho : 0 ≤ origin) (ho2 : origin ≤ 1000000) (hE : Env w)
    (hk : ∀ W, Ext w W → ∀ s : ByteArray, s.size ≤ maxLen → (Instr.lookup 40 kv (.string s) false).run Tryd.prog W = .ok (.int .i64 (f s.data.toList)) W) (hf0 : ∀ k, 0 ≤ f k ∧ f k ≤ 1099511627776) :
    Calls Tryd.prog 29 #[.slice A n cap, .int .i64 origin, kv] w fun e w' => ∃ v, e = .returned (.tuple #[.string (BA (buildA f origin [] [] l).1), v]) ∧ w'.ownsRow w.heap.size 30 2 v (buildA f origin [] [] l).2.length (holdCells ((buildA f origin [] [] l).2.map labH)) ∧ Ext w w' := by
  obtain ⟨i0, hi, hz0, hz1, hz2⟩ := info_parts Tryd.infoSym
  have hlen : n = l.length := by simpa using hl.len
  have hroom := hl.room
  have hmax := hl.max
  unfold maxLen at hmax
  obtain ⟨R, hR⟩ : ∃ R, R = buildA f origin [] [] l := ⟨_, rfl⟩
  rw [← hR]
  have HRR := Lib.hid hR
  have HL := Lib.hid hlen
  have HF := Lib.hid hf
  have HH := Lib.hid hl
  have HK := Lib.hid hk
  have HF0 := Lib.hid hf0
  clear hlen hf hl hk hf0 hR
  go_enter Tryd.func29, Tryd.ntmps29
  go_wp2_with fail
  have hb0 := Lib.hid (Bld.fresh w (w.alloc (.cells #[.pointer none, .slice none 0 0] 68)) w.heap.size w.heap.size (Nat.le_refl _) (by show (w.heap.push _)[w.heap.size]? = _; simp))
  go_loopw [9, 10, 12, 13, 14, 15, 16, 17, 20] (fun lv la p a b c d g i wr => ∃ k : Nat, ∃ text : Bytes, ∃ labs : List Lab, k ≤ n ∧ i = .int .i64 k ∧ la = .int .u8 ((lastB text).toNat : Int) ∧ buildA f origin text labs (l.drop k) = R ∧ text.length ≤ k * 100010 ∧ labs.length ≤ k ∧ Bld w.heap.size w.heap.size text wr ∧ wr.ownsRow w.heap.size 30 2 lv labs.length (holdCells (labs.map labH)) ∧ Ext w wr) (fun _ _ _ _ _ _ _ _ i _ => n - (intOf i).toNat)
  case atStart => exact ⟨0, [], [], Nat.zero_le _, rfl, rfl, HRR.out.symm, Nat.zero_le _, Nat.zero_le _, hb0.out, World.ownsRow_nil _ _ _ _, (Ext.refl w).alloc _⟩
  case round =>
    obtain ⟨k, text, labs, hk, rfl, rfl, hbl, htl, hll, hbd, hown, hx⟩ := hrel
    have HBL := Lib.hid hbl
    have HBD := Lib.hid hbd
    have HO := Lib.hid hown
    clear hbl hbd hown
    by_cases hlt : k < n
    · obtain ⟨b, off, rfl, hc⟩ := HH.out.at_ (by omega)
      have hkl : k < l.length := by have := HL.out; omega
      have hc1 := hx.cell (hc k (by rw [List.length_map]; exact hkl)).1
      have hc2 := hx.cell (hc k (by rw [List.length_map]; exact hkl)).2
      rw [List.getElem_map] at hc1 hc2
      have hts := HF.out l[k] (List.getElem_mem hkl)
      have hdrop : l.drop k = l[k] :: l.drop (k + 1) := List.drop_eq_getElem_cons hkl
      have hstep : Hid (R = match defN l[k].1 with
          | some m => buildA f origin text (labs ++ [(m, origin + text.length)]) (l.drop (k + 1))
          | none => buildA f origin (glue text (addS f l[k])) labs (l.drop (k + 1))) := by
        show _ = _
        rw [← HBL.out, hdrop]; rfl
      clear hdrop
      generalize l[k] = t at *
      unfold tokH at hc1 hc2
      simp only at hc1 hc2
      have hsz : (BA t.1).size ≤ 100000 := by rw [BA_size]; exact hts.1
      have HC := Lib.hid hc
      clear hc
      have hE1 := hE.ext hx
      cases hd : defN t.1 with
      | some m =>
        have htl' : text.length ≤ (k + 1) * 100010 := Nat.le_trans htl (Nat.mul_le_mul_right _ (Nat.le_succ k))
        have hcl := fun W => def_some (BA t.1) m (.int .i64 (t.2 : Int)) W (by unfold maxLen; omega) hd
        have hst : Hid (buildA f origin text (labs ++ [(m, origin + text.length)]) (l.drop (k + 1)) = R) := by
          show _ = _
          rw [hstep.out, hd]
        have hcell : Hid (holdCells ((labs ++ [(m, origin + text.length)]).map labH) = holdCells (labs.map labH) ++ [.string (BA m), .int .i64 (origin + text.length)]) := by
          show _ = _
          rw [List.map_append, List.map_cons, List.map_nil, holdCells_snoc]
          rfl
        have H1 := Lib.hid hcl
        clear hcl hd hstep
        generalize BA t.1 = s at *
        generalize (t.2 : Int) = z at *
        generalize BA m = sm at *
        go_wp2_with fail
        refine (H1.out _).mono ?_
        rintro e w2 ⟨rfl, hx2⟩
        have hx12 := ((Ext.refl wr).alloc (.cells #[.string s, .int .i64 z] 76)).trans hx2
        have HB2 := Lib.hid (HBD.out.ext hx12)
        have HOa := Lib.hid (own_ext HO.out hx12)
        have hx3 := hx.trans hx12
        go_wp2_with fail
        refine (Tryd.Builder_Len w.heap.size w.heap.size (byteCells text) w2 HB2.out).mono ?_
        rintro e w2' ⟨rfl, rfl⟩
        rw [byteCells_length]
        have hx3a := hx3
        go_wp2_with (at_builtin; refine wpList_append_own _ rfl (.tmp 32) (.tmp 38) _ rfl w.heap.size 30 i0 _ 2 24 Tryd.underlying23 hi hz0 hz1 hz2 rfl (by omega) _ _ _ rfl (HOa.out.alloc _) ⟨w2'.heap.size, 0, none⟩ 1 1 [.string sm, .int .i64 (origin + text.length)] rfl rfl ?c1 ?c2 ?c3 ?c4 ?c5 ?_)
        case c1 =>
          intro j u hu
          match j, hu with
          | 0, hu => simp at hu; subst hu; go_cell
          | 1, hu => simp at hu; subst hu; simp [Addr.add]
        case c2 =>
          intro u hu
          simp at hu
          rcases hu with rfl | rfl <;> rfl
        case c3 => unfold maxLen; omega
        case c4 => omega
        case c5 => (have hc5 := hx3a.size; try simp at hc5); simp; omega
        intro v' w2 hown2 hgr _
        have hx3 := (hx3a.alloc (.cells #[.string sm, .int .i64 (origin + text.length)] 30)).grown hgr (fun k hk => (HOa.out.lt k hk).1)
        have HO2 := Lib.hid hown2
        have HG := Lib.hid hgr
        clear hown2 hgr
        have HB3 := Lib.hid ((HB2.out.ext ((Ext.refl w2').alloc (.cells #[.string sm, .int .i64 (origin + text.length)] 30))).grown (HOa.out.alloc _) (by decide) (by decide) HG.out)
        go_wp2_with fail
        go_roundw
        case rel =>
          refine ⟨k + 1, text, _, by omega, by go_num, rfl, hst.out, htl', by simp; omega, HB3.out, ?_, hx3⟩
          rw [hcell.out, List.length_append]
          exact HO2.out
        case measure => simp [intOf]; omega
      | none =>
        have hcl := fun W => def_none (BA t.1) (.int .i64 (t.2 : Int)) W (by unfold maxLen; omega) hd
        have H1 := Lib.hid hcl
        cases hr : refN t.1 with
        | some m =>
          have hrl := fun W => ref_some (BA t.1) m (.int .i64 (t.2 : Int)) W (by unfold maxLen; omega) hr
          have hms : (BA m).size ≤ maxLen := by
            rw [BA_size]
            have hl2 := hts.1
            unfold refN at hr
            split at hr
            · rename_i r he
              split at hr
              · simp at hr; subst hr; rw [he] at hl2; simp at hl2; unfold maxLen; omega
              · cases hr
            · cases hr
          have hf1 := HF0.out m
          have hst : Hid (buildA f origin (glue text (BA (sixA (f m))).data.toList) labs (l.drop (k + 1)) = R) := by
            show _ = _
            rw [hstep.out, hd]
            simp only [addS, hr]
            rfl
          have had := fun W (hW : Env W) => address_any (f m) hf1.1 hf1.2 W hW
          have hs6 : (BA (sixA (f m))).size = 6 := by rw [BA_size, sixA_length _ hf1.1]
          have HMD2 := Lib.hid (BA_data m)
          have H2 := Lib.hid hrl
          have H3 := Lib.hid had
          clear hcl hrl had hd hr hstep
          generalize BA t.1 = s at *
          generalize (t.2 : Int) = z at *
          generalize BA (sixA (f m)) = SB at *
          have hs1 : 1 ≤ SB.size := by omega
          have hs2 : SB.size ≤ 100000 := by omega
          clear hs6
          go_wp2_with fail
          refine (H1.out _).mono ?_
          rintro e w2 ⟨x, rfl, hx2⟩
          have hcs : w2.cell? ⟨wr.heap.size, 0, none⟩ = some (.string s) := hx2.cell (by go_cell)
          have hcz : w2.cell? ⟨wr.heap.size, 1, none⟩ = some (.int .i64 z) := hx2.cell (by go_cell)
          go_wp2_with fail
          refine (H2.out _).mono ?_
          rintro e w3 ⟨rfl, hx3⟩
          have hx13 := (((Ext.refl wr).alloc (.cells #[.string s, .int .i64 z] 76)).trans hx2).trans hx3
          have hlk := HK.out w3 (hx.trans hx13) (BA m) hms
          rw [HMD2.out] at hlk
          generalize f m = fm at *
          go_wp2_with fail
          refine (H3.out _ (hE1.ext hx13)).mono ?_
          rintro e w4 ⟨rfl, hx4⟩
          have hx14 := hx13.trans hx4
          have hxw := hx.trans hx14
          have HBX := Lib.hid (HBD.out.ext hx14)
          have HOX := Lib.hid (own_ext HO.out hx14)
          clear hlk
          have hlast : Hid (lastB (glue text SB.data.toList) = SB[SB.size - 1]) := by
            show _ = _
            unfold glue
            rw [lastB_append _ _ (by intro e; have h0 : SB.size = 0 := by { have : SB.size = SB.data.toList.length := rfl; rw [this, e]; rfl }; omega), last_snoc SB (by omega)]
          have hhd := head_get SB (by omega)
          cases hc1 : isDig (lastB text) with
          | false =>
            have hglue : Hid (glue text SB.data.toList = text ++ SB.data.toList) := by show _ = _; unfold glue; rw [hc1]; rfl
            have hD1 := fun W => isDigit_any (lastB text) W
            rw [hc1] at hD1
            have D1 := Lib.hid hD1
            clear hD1 hc1 hhd
            generalize lastB text = lc at *
            go_wp2_with fail
            refine (D1.out _).mono ?_
            rintro e wa ⟨rfl, rfl⟩
            go_wp2_with fail
            refine (bld_str w.heap.size w.heap.size text SB _ HBX.out (by omega) hxw.size).mono ?_
            rintro e wd ⟨rfl, hbd2, hlo2, hkd⟩
            have hxd : Ext w wd := Below.trans hxw hlo2
            have HOd := Lib.hid (own_bkeep hkd HOX.out (by decide) (HBX.out.type (by decide)))
            have HBd := Lib.hid hbd2
            clear hbd2
            go_wp2_with fail
            go_roundw
            case rel =>
              refine ⟨k + 1, glue text SB.data.toList, labs, by omega, by go_num, ?_, hst.out, ?_, by omega, ?_, HOd.out, hxd⟩
              · rw [hlast.out]
              · rw [hglue.out]; simp; omega
              · rw [hglue.out]; exact HBd.out
            case measure => simp [intOf]; omega
          | true =>
            have hD1 := fun W => isDigit_any (lastB text) W
            have hD2 := fun W => isDigit_any SB[0] W
            rw [hc1] at hD1
            cases hc2 : isDig SB[0] with
            | false =>
              have hglue : Hid (glue text SB.data.toList = text ++ SB.data.toList) := by show _ = _; unfold glue; rw [hc1, hhd, hc2]; rfl
              rw [hc2] at hD2
              have D1 := Lib.hid hD1
              have D2 := Lib.hid hD2
              clear hD1 hD2 hc1 hc2 hhd
              generalize lastB text = lc at *
              go_wp2_with fail
              refine (D1.out _).mono ?_
              rintro e wa ⟨rfl, rfl⟩
              go_wp2_with fail
              refine (D2.out _).mono ?_
              rintro e wb ⟨rfl, rfl⟩
              go_wp2_with fail
              refine (bld_str w.heap.size w.heap.size text SB _ HBX.out (by omega) hxw.size).mono ?_
              rintro e wd ⟨rfl, hbd2, hlo2, hkd⟩
              have hxd : Ext w wd := Below.trans hxw hlo2
              have HOd := Lib.hid (own_bkeep hkd HOX.out (by decide) (HBX.out.type (by decide)))
              have HBd := Lib.hid hbd2
              clear hbd2
              go_wp2_with fail
              go_roundw
              case rel =>
                refine ⟨k + 1, glue text SB.data.toList, labs, by omega, by go_num, ?_, hst.out, ?_, by omega, ?_, HOd.out, hxd⟩
                · rw [hlast.out]
                · rw [hglue.out]; simp; omega
                · rw [hglue.out]; exact HBd.out
              case measure => simp [intOf]; omega
            | true =>
              have hglue : Hid (glue text SB.data.toList = text ++ [32] ++ SB.data.toList) := by show _ = _; unfold glue; rw [hc1, hhd, hc2]; rfl
              rw [hc2] at hD2
              have D1 := Lib.hid hD1
              have D2 := Lib.hid hD2
              clear hD1 hD2 hc1 hc2 hhd
              generalize lastB text = lc at *
              go_wp2_with fail
              refine (D1.out _).mono ?_
              rintro e wa ⟨rfl, rfl⟩
              go_wp2_with fail
              refine (D2.out _).mono ?_
              rintro e wb ⟨rfl, rfl⟩
              go_wp2_with fail
              refine (bld_byte w.heap.size w.heap.size text 32 _ HBX.out (by omega) hxw.size).mono ?_
              rintro e wc ⟨rfl, hbc, hlo, hkc⟩
              have hxc : Ext w wc := Below.trans hxw hlo
              have HOc := Lib.hid (own_bkeep hkc HOX.out (by decide) (HBX.out.type (by decide)))
              have HBc := Lib.hid hbc
              clear hbc
              go_wp2_with fail
              refine (bld_str w.heap.size w.heap.size (text ++ [32]) SB _ HBc.out (by simp; omega) hxc.size).mono ?_
              rintro e wd ⟨rfl, hbd2, hlo2, hkd⟩
              have hxd : Ext w wd := Below.trans hxc hlo2
              have HOd := Lib.hid (own_bkeep hkd HOc.out (by decide) (HBc.out.type (by decide)))
              have HBd := Lib.hid hbd2
              clear hbd2
              go_wp2_with fail
              go_roundw
              case rel =>
                refine ⟨k + 1, glue text SB.data.toList, labs, by omega, by go_num, ?_, hst.out, ?_, by omega, ?_, HOd.out, hxd⟩
                · rw [hlast.out]
                · rw [hglue.out]; simp; omega
                · rw [hglue.out]; exact HBd.out
              case measure => simp [intOf]; omega
        | none =>
          have hrl := fun W => ref_none (BA t.1) (.int .i64 (t.2 : Int)) W (by unfold maxLen; omega) hr
          have hst : Hid (buildA f origin (glue text (BA t.1).data.toList) labs (l.drop (k + 1)) = R) := by
            show _ = _
            rw [hstep.out, hd]
            simp only [addS, hr]
            rfl
          have H2 := Lib.hid hrl
          have hs1 : 1 ≤ (BA t.1).size := by
            rw [BA_size]
            have := hts.2
            cases h : t.1 with
            | nil => exact absurd h this
            | cons _ _ => simp
          clear hcl hrl hd hr hstep
          generalize BA t.1 = SB at *
          generalize (t.2 : Int) = z at *
          go_wp2_with fail
          refine (H1.out _).mono ?_
          rintro e w2 ⟨x, rfl, hx2⟩
          have hcs : w2.cell? ⟨wr.heap.size, 0, none⟩ = some (.string SB) := hx2.cell (by go_cell)
          have hcz : w2.cell? ⟨wr.heap.size, 1, none⟩ = some (.int .i64 z) := hx2.cell (by go_cell)
          go_wp2_with fail
          refine (H2.out _).mono ?_
          rintro e w3 ⟨x2, rfl, hx3⟩
          have hx13 := (((Ext.refl wr).alloc (.cells #[.string SB, .int .i64 z] 76)).trans hx2).trans hx3
          have hxw := hx.trans hx13
          have HBX := Lib.hid (HBD.out.ext hx13)
          have HOX := Lib.hid (own_ext HO.out hx13)
          have hlast : Hid (lastB (glue text SB.data.toList) = SB[SB.size - 1]) := by
            show _ = _
            unfold glue
            rw [lastB_append _ _ (by intro e; have h0 : SB.size = 0 := by { have : SB.size = SB.data.toList.length := rfl; rw [this, e]; rfl }; omega), last_snoc SB (by omega)]
          have hhd := head_get SB (by omega)
          cases hc1 : isDig (lastB text) with
          | false =>
            have hglue : Hid (glue text SB.data.toList = text ++ SB.data.toList) := by show _ = _; unfold glue; rw [hc1]; rfl
            have hD1 := fun W => isDigit_any (lastB text) W
            rw [hc1] at hD1
            have D1 := Lib.hid hD1
            clear hD1 hc1 hhd
            generalize lastB text = lc at *
            go_wp2_with fail
            refine (D1.out _).mono ?_
            rintro e wa ⟨rfl, rfl⟩
            go_wp2_with fail
            refine (bld_str w.heap.size w.heap.size text SB _ HBX.out (by omega) hxw.size).mono ?_
            rintro e wd ⟨rfl, hbd2, hlo2, hkd⟩
            have hxd : Ext w wd := Below.trans hxw hlo2
            have HOd := Lib.hid (own_bkeep hkd HOX.out (by decide) (HBX.out.type (by decide)))
            have HBd := Lib.hid hbd2
            clear hbd2
            go_wp2_with fail
            go_roundw
            case rel =>
              refine ⟨k + 1, glue text SB.data.toList, labs, by omega, by go_num, ?_, hst.out, ?_, by omega, ?_, HOd.out, hxd⟩
              · rw [hlast.out]
              · rw [hglue.out]; simp; omega
              · rw [hglue.out]; exact HBd.out
            case measure => simp [intOf]; omega
          | true =>
            have hD1 := fun W => isDigit_any (lastB text) W
            have hD2 := fun W => isDigit_any SB[0] W
            rw [hc1] at hD1
            cases hc2 : isDig SB[0] with
            | false =>
              have hglue : Hid (glue text SB.data.toList = text ++ SB.data.toList) := by show _ = _; unfold glue; rw [hc1, hhd, hc2]; rfl
              rw [hc2] at hD2
              have D1 := Lib.hid hD1
              have D2 := Lib.hid hD2
              clear hD1 hD2 hc1 hc2 hhd
              generalize lastB text = lc at *
              go_wp2_with fail
              refine (D1.out _).mono ?_
              rintro e wa ⟨rfl, rfl⟩
              go_wp2_with fail
              refine (D2.out _).mono ?_
              rintro e wb ⟨rfl, rfl⟩
              go_wp2_with fail
              refine (bld_str w.heap.size w.heap.size text SB _ HBX.out (by omega) hxw.size).mono ?_
              rintro e wd ⟨rfl, hbd2, hlo2, hkd⟩
              have hxd : Ext w wd := Below.trans hxw hlo2
              have HOd := Lib.hid (own_bkeep hkd HOX.out (by decide) (HBX.out.type (by decide)))
              have HBd := Lib.hid hbd2
              clear hbd2
              go_wp2_with fail
              go_roundw
              case rel =>
                refine ⟨k + 1, glue text SB.data.toList, labs, by omega, by go_num, ?_, hst.out, ?_, by omega, ?_, HOd.out, hxd⟩
                · rw [hlast.out]
                · rw [hglue.out]; simp; omega
                · rw [hglue.out]; exact HBd.out
              case measure => simp [intOf]; omega
            | true =>
              have hglue : Hid (glue text SB.data.toList = text ++ [32] ++ SB.data.toList) := by show _ = _; unfold glue; rw [hc1, hhd, hc2]; rfl
              rw [hc2] at hD2
              have D1 := Lib.hid hD1
              have D2 := Lib.hid hD2
              clear hD1 hD2 hc1 hc2 hhd
              generalize lastB text = lc at *
              go_wp2_with fail
              refine (D1.out _).mono ?_
              rintro e wa ⟨rfl, rfl⟩
              go_wp2_with fail
              refine (D2.out _).mono ?_
              rintro e wb ⟨rfl, rfl⟩
              go_wp2_with fail
              refine (bld_byte w.heap.size w.heap.size text 32 _ HBX.out (by omega) hxw.size).mono ?_
              rintro e wc ⟨rfl, hbc, hlo, hkc⟩
              have hxc : Ext w wc := Below.trans hxw hlo
              have HOc := Lib.hid (own_bkeep hkc HOX.out (by decide) (HBX.out.type (by decide)))
              have HBc := Lib.hid hbc
              clear hbc
              go_wp2_with fail
              refine (bld_str w.heap.size w.heap.size (text ++ [32]) SB _ HBc.out (by simp; omega) hxc.size).mono ?_
              rintro e wd ⟨rfl, hbd2, hlo2, hkd⟩
              have hxd : Ext w wd := Below.trans hxc hlo2
              have HOd := Lib.hid (own_bkeep hkd HOc.out (by decide) (HBc.out.type (by decide)))
              have HBd := Lib.hid hbd2
              clear hbd2
              go_wp2_with fail
              go_roundw
              case rel =>
                refine ⟨k + 1, glue text SB.data.toList, labs, by omega, by go_num, ?_, hst.out, ?_, by omega, ?_, HOd.out, hxd⟩
                · rw [hlast.out]
                · rw [hglue.out]; simp; omega
                · rw [hglue.out]; exact HBd.out
              case measure => simp [intOf]; omega
    · obtain rfl : k = n := by omega
      have hfin : Hid (R = (text, labs)) := by
        show _ = _
        rw [← HBL.out, List.drop_of_length_le (by have := HL.out; omega)]
        rfl
      go_wp2_with fail
      refine (bld_string w.heap.size w.heap.size text wr HBD.out hx.size).mono ?_
      rintro e w2 ⟨rfl, hx2, hk2⟩
      go_wp2_with fail
      go_ret2
      refine ⟨_, by rw [hfin.out]; rfl, ?_, Below.trans hx hx2⟩
      rw [hfin.out]
      exact own_bkeep hk2 HO.out (by decide) (HBD.out.type (by decide))
end Go.Proofs.YtimegcnpembhkaaDoor
