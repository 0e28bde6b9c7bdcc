/- The law AssemblerLabels returns true. -/
import Derived.Test.YtimegcnpembhkaaDoorAsmAwake
import Derived.Test.YtimegcnpembhkaaDoorAsmLab
import Derived.Deep.QuietTactic
import Derived.BigQuiet
import Derived.IntWalk
namespace Go.Proofs.YtimegcnpembhkaaDoor
open Go.RowKit
open Go.Lib hiding intOf
set_option linter.unusedVariables false
attribute [local simp] Slots Slot look Is Oper.looksAt Op.operands Call.operands

/-- the words of definitions that have come -/
def metF : List Tok → Bytes → Int := fun l => l.foldl (fun f t => if (defN t.1).isSome then setI f t.1 1 else f) (fun _ => 0)
theorem metF_snoc (l : List Tok) (t : Tok) : metF (l ++ [t]) = if (defN t.1).isSome then setI (metF l) t.1 1 else metF l := by
  unfold metF; rw [List.foldl_append]; rfl
theorem metF_zero (l : List Tok) (w : Bytes) (h : ∀ t ∈ l, (defN t.1).isSome → t.1 ≠ w) : metF l w = 0 := by
  have key : ∀ (l : List Tok) (f : Bytes → Int), f w = 0 → (∀ t ∈ l, (defN t.1).isSome → t.1 ≠ w) → l.foldl (fun f t => if (defN t.1).isSome then setI f t.1 1 else f) f w = 0 := by
    intro l
    induction l with
    | nil => intro f hf _; exact hf
    | cons t r ih =>
      intro f hf h
      rw [List.foldl_cons]
      refine ih _ ?_ (fun u hu => h u (by simp [hu]))
      split
      · rename_i hs
        unfold setI
        rw [if_neg (fun e => h t (by simp) hs e.symm)]
        exact hf
      · exact hf
  exact key l _ rfl h
theorem metF_new {D M : Bytes → Bool} {l : List Tok} (hok : Ok D M l) {k : Nat} (hk : k < l.length) {m : Bytes} (hd : defN l[k].1 = some m) : metF (l.take k) l[k].1 = 0 := by
  refine metF_zero _ _ fun t ht _ he => ?_
  have hnd := hok.nodup
  rw [← List.take_append_drop k l, List.filterMap_append, List.nodup_append] at hnd
  have h1 : m ∈ (l.take k).filterMap (defN ·.1) := List.mem_filterMap.2 ⟨t, ht, by rw [he]; exact hd⟩
  have h2 : m ∈ (l.drop k).filterMap (defN ·.1) := List.mem_filterMap.2 ⟨l[k], by rw [List.drop_eq_getElem_cons hk]; exact List.mem_cons_self, hd⟩
  exact hnd.2.2 m h1 m h2 rfl

theorem asm_err {src : Bytes} {o : Int} (h : (asmA src o).2.2.2 ≠ 0) : (asmA src o).1 = [] ∧ (asmA src o).2.1 = [] := by
  unfold asmA at h ⊢
  by_cases h1 : o < 0 ∨ 262144 ≤ o
  · rw [if_pos h1]; exact ⟨rfl, rfl⟩
  rw [if_neg h1] at h ⊢
  by_cases hc : (chkA (toks src)).2 ≠ 0
  · rw [if_pos hc]; exact ⟨rfl, rfl⟩
  rw [if_neg hc] at h ⊢
  by_cases hl : 40000 < (buildA (lookI (buildA (fun _ => 0) o [] [] (toks src)).2) o [] [] (toks src)).1.length
  · rw [if_pos hl]; exact ⟨rfl, rfl⟩
  · rw [if_neg hl] at h; exact absurd rfl h

/-- a definition's word -/
theorem def_word {s m : Bytes} (h : defN s = some m) : s = m ++ [58] ∧ ∃ c r, m = c :: r ∧ isLow c = true := by
  unfold defN at h
  split at h
  · rename_i hc
    have hm : s.dropLast = m := by simpa using h
    obtain ⟨ys, hys⟩ := List.getLast?_eq_some_iff.1 hc.1
    rw [hys, List.dropLast_concat] at hm
    subst hm
    refine ⟨hys, ?_⟩
    have hn := hc.2
    rw [hys, List.dropLast_concat] at hn
    unfold nameB at hn
    cases ys with
    | nil => cases hn
    | cons c r =>
      simp only [Bool.and_eq_true] at hn
      exact ⟨c, r, rfl, hn.1.2⟩
  · cases h
theorem cd_lt (c : UInt8) (h : isCd c = true) : ((c.toNat : Nat) : Int) < 97 :=
  u8_all (p := fun c => isCd c = true → ((c.toNat : Nat) : Int) < 97) (by decide +kernel) c h

theorem def_facts {s m : Bytes} (h : defN s = some m) : 2 ≤ (BA s).size ∧
    (∀ h1 : (BA s).size - 1 < (BA s).size, ((((BA s)[(BA s).size - 1].toNat : Nat) : Int) == 58) = true) ∧
    (∀ h0 : 0 < (BA s).size, 97 ≤ (((BA s)[0].toNat : Nat) : Int) ∧ (((BA s)[0].toNat : Nat) : Int) ≤ 122) ∧
    ((BA m).toList == ((BA s).extract 0 ((BA s).size - 1)).toList) = true := by
  obtain ⟨hw1, c0, r0, hw2, hlow⟩ := def_word h
  have hsz : (BA s).size = m.length + 1 := by rw [BA_size, hw1]; simp
  have hm1 : 1 ≤ m.length := by rw [hw2]; simp
  refine ⟨by omega, fun h1 => ?_, fun h0 => ?_, ?_⟩
  · have : (BA s)[(BA s).size - 1] = 58 := by
      show s[(BA s).size - 1]'_ = 58
      have e : ∀ (i : Nat) (hi : i < s.length), i = m.length → s[i] = 58 := by
        intro i hi he
        subst he
        simp only [hw1]
        simp
      exact e _ _ (by omega)
    rw [this]; rfl
  · have : (BA s)[0] = c0 := by
      show s[0]'_ = c0
      simp only [hw1, hw2]
      simp
    rw [this]
    unfold isLow at hlow
    rw [Bool.and_eq_true, decide_eq_true_iff, decide_eq_true_iff] at hlow
    omega
  · rw [beq_iff_eq, ByteArray.toList_eq, ByteArray.toList_eq, hsz]
    simp only [ByteArray.data_extract, Array.toList_extract, List.extract_eq_take_drop]
    rw [BA_data, BA_data, hw1]
    simp
theorem none_facts {D M : Bytes → Bool} {l : List Tok} (hok : Ok D M l) {t : Tok} (ht : t ∈ l) (hn : t.1 ≠ []) (hd : defN t.1 = none) (h0 : 0 < (BA t.1).size) :
    (((BA t.1)[0].toNat : Nat) : Int) < 97 ∧ ((((BA t.1)[0].toNat : Nat) : Int) == 38) = decide (t.1.head? = some 38) := by
  obtain ⟨s, ln⟩ := t
  simp only at hn hd h0 ⊢
  cases s with
  | nil => exact absurd rfl hn
  | cons c r =>
    have e2 : (BA (c :: r))[0] = c := rfl
    rw [e2]
    constructor
    · cases hr : refN (c :: r) with
      | some n =>
        have : c = 38 := by
          unfold refN at hr
          split at hr
          · rename_i r' he
            injection he
          · cases hr
        rw [this]; decide
      | none =>
        have hc := (hok.each _ ht hd).2 hr
        exact cd_lt c (List.all_eq_true.1 hc c (by simp))
    · rw [Bool.eq_iff_iff, beq_iff_eq, decide_eq_true_iff]
      simp only [List.head?_cons, Option.some.injEq]
      constructor
      · intro h
        exact UInt8.toNat_inj.1 (by show c.toNat = 38; omega)
      · intro h; rw [h]; rfl

set_option maxHeartbeats 8000000 in
set_option maxRecDepth 100000 in
theorem labels_any (src : ByteArray) (o : Int) (w : World) (hs : src.size ≤ maxLen) (hE : Env w) :
    Calls Tryd.prog 7 #[.string src, .int .i64 o] w fun e w' => e = .returned (.bool true) ∧ Ext w w' := by
  have HAW := Lib.hid (fun W (hW : Env W) => awake_any W hW)
  unfold maxLen at hs
  by_cases g1 : (600 : Int) < src.size
  · go_enter Tryd.func7, Tryd.ntmps7
    go_wp2_with fail
    refine (HAW.out _ hE).mono ?_
    rintro e w1 ⟨rfl, hx⟩
    go_wp2_with fail
    go_ret
    exact ⟨rfl, hx⟩
  have hsl : src.data.toList.length = src.size := rfl
  have hA := fun W (hW : Env W) => assemble_any src o W (by omega) hW
  by_cases he : (asmA src.data.toList o).2.2.2 = 0
  · have hok := asm_ok he
    have hfront := asm_front he
    have hflen := front_length src.data.toList
    have hWd := fun W (hW : Env W) => awords_any src W (by omega) hW
    have htl := toks_length src.data.toList
    have htm := toks_mem src.data.toList
    have hlab := label_at o (toks src.data.toList) [] []
    have hbd := asm_bound src.data.toList o (by omega)
    rw [hsl] at htl hflen htm
    generalize toks src.data.toList = ts at *
    obtain ⟨ho1, ho2, hk, heq, hlen⟩ := hok
    have hlabs : (asmA src.data.toList o).2.1 = (buildA (fun _ => 0) o [] [] ts).2 := by rw [heq]
    have htext : (asmA src.data.toList o).1.length = (buildA (fun _ => 0) o [] [] ts).1.length := by
      rw [heq]; exact (build_sim _ _ o o _ [] [] [] [] .nil (by rw [Int.sub_self]; exact .nil)).1.length
    have hnum : (buildA (fun _ => 0) o [] [] ts).2.length = (ts.filterMap (defN ·.1)).length := by
      have := congrArg List.length (build_names (fun _ => 0) o ts [] [])
      simpa using this
    rw [← hlabs] at hlab hnum
    generalize asmA src.data.toList o = RA at *
    obtain ⟨T, labs, ln, er⟩ := RA
    simp only at he hA hlab hlabs htext hnum hbd hlen
    subst he
    have hE0 := Lib.hid heq
    have HA := Lib.hid hA
    have HW := Lib.hid hWd
    have HF := Lib.hid hfront
    have HFL := Lib.hid hflen
    have HTM := Lib.hid htm
    have HLAB := Lib.hid hlab
    have HK := Lib.hid hk
    have HTX := Lib.hid htext
    have HNUM := Lib.hid hnum
    have HB := Lib.hid hbd
    clear heq hA hWd hfront hflen htm hlab hk htext hnum hlabs hbd hsl
    obtain ⟨WL, hWL⟩ : ∃ WL, WL = ts.map wordV := ⟨_, rfl⟩
    have HWL := Lib.hid hWL
    clear hWL
    have hmm := @run_makeMap Tryd.prog
    have hnl : labs.length ≤ 100000 := HB.out.2.1
    go_enter Tryd.func7, Tryd.ntmps7
    go_wp2_with fail
    refine (HA.out _ hE).mono ?_
    rintro e0 w1 ⟨A, cA, rfl, hlA, hx1⟩
    go_wp2_with fail
    refine (HW.out _ (hE.ext hx1)).mono ?_
    rintro e0 w2 ⟨v, rfl, hown, hx2⟩
    obtain ⟨B, cB, rfl, hlB⟩ := Lst.of_own hown
    have hlA2 := hlA.ext hx2
    have hAr := hlA2.room
    have hAm := hlA2.max
    have hBr := hlB.room
    have hBm := hlB.max
    unfold maxLen at hAm hBm
    have LA := Lib.hid hlA2
    have LB := Lib.hid hlB
    have hx12 := hx1.trans hx2
    have hE2 := hE.ext hx12
    have hm0 := Lib.hid (IMap.fresh w2)
    clear hown hlB hlA hlA2 hx1 hx2
    go_wp2_with fail
    go_loopw [10, 11, 14, 15, 16, 17, 18, 52] (fun pl nn _ _ _ _ _ i wr => ∃ k d : Nat, ∃ P : ByteArray, k ≤ ts.length ∧ i = .int .i64 k ∧ pl = .string P ∧ P.data.toList = spW (codeW (ts.take k)) ∧ nn = .int .i64 d ∧ d ≤ k ∧ d = ((ts.take k).filterMap (defN ·.1)).length ∧ IMap wr w2.heap.size k (metF (ts.take k)) ∧ Ext w2 wr) (fun _ _ _ _ _ _ _ i _ => ts.length - (intOf i).toNat)
    case atStart => exact ⟨0, 0, ⟨#[]⟩, Nat.zero_le _, rfl, rfl, rfl, rfl, Nat.le_refl _, rfl, hm0.out, (Ext.refl w2).alloc _⟩
    case round =>
      obtain ⟨k, d, P, hk, rfl, rfl, hP, rfl, hdk, hd, hm, hx⟩ := hrel
      have HP := Lib.hid hP
      have HD := Lib.hid hd
      have HM := Lib.hid hm
      have hPs : P.size ≤ 4207 := by
        have h1 := HFL.out k
        have h2 : P.data.toList.length = P.size := rfl
        rw [hP] at h2
        omega
      clear hP hd hm
      by_cases hlt : k < ts.length
      · obtain ⟨b, off, rfl, hc⟩ := LB.out.at_ (by omega)
        have hc1 := hx.cell (hc k (by rw [List.length_map]; exact hlt))
        rw [List.getElem_map] at hc1
        have htk := HTM.out ts[k] (List.getElem_mem hlt)
        have htake : Hid (ts.take (k + 1) = ts.take k ++ [ts[k]]) := by show _ = _; rw [List.take_succ_eq_append_getElem hlt]
        have HCC := Lib.hid hc
        clear hc
        cases hdf : defN ts[k].1 with
        | some m =>
          have hlb := HLAB.out k m hlt hdf
          simp only [List.length_nil, Nat.zero_add] at hlb
          rw [← HD.out] at hlb
          obtain ⟨T', hT1, hT2⟩ := HF.out k
          rw [← hT2] at hlb
          have hdl : d < labs.length := by
            rcases Nat.lt_or_ge d labs.length with h | h
            · exact h
            · rw [List.getElem?_eq_none h] at hlb; cases hlb
          have hmet : Hid (metF (ts.take k) ts[k].1 = 0) := metF_new HK.out hlt hdf
          have hmet2 : Hid (metF (ts.take (k + 1)) = setI (metF (ts.take k)) ts[k].1 1) := by show _ = _; rw [htake.out, metF_snoc, if_pos (by rw [hdf]; rfl)]
          have hcw : Hid (codeW (ts.take (k + 1)) = codeW (ts.take k)) := by show _ = _; rw [htake.out, codeW_snoc, hdf]
          have hdn : Hid (d + 1 = ((ts.take (k + 1)).filterMap (defN ·.1)).length) := by show _ = _; rw [htake.out, List.filterMap_append, List.length_append, ← HD.out]; simp [hdf]
          have hTl : T'.length ≤ 100000 := by
            have h1 := asm_bound (spW (codeW (ts.take k))) o (by have := HFL.out k; omega)
            rw [hT1] at h1
            have := h1.1
            simp only at this
            omega
          obtain ⟨bl, ol, rfl, hcl⟩ := LA.out.at_ (by omega)
          have hl1 := hx.cell (hcl d (by rw [List.length_map]; exact hdl)).1
          have hl2 := hx.cell (hcl d (by rw [List.length_map]; exact hdl)).2
          rw [List.getElem_map] at hl1 hl2
          have hgl : labs[d] = (m, o + (T'.length : Int)) := by rw [List.getElem?_eq_getElem hdl] at hlb; exact Option.some.inj hlb
          rw [hgl] at hl1 hl2
          unfold labH at hl1 hl2
          simp only at hl1 hl2
          have hfa := def_facts hdf
          have HCL := Lib.hid hcl
          have hasm := fun W (hW : Env W) => assemble_any P o W (by omega) hW
          rw [HP.out, hT1] at hasm
          simp only [List.length_nil, List.map_nil] at hasm
          have HMD : Hid ((BA ts[k].1).data.toList = ts[k].1) := BA_data _
          have hsz2 : (BA ts[k].1).size ≤ 600 := by rw [BA_size]; have := htk.2.1; omega
          have HA2 := Lib.hid hasm
          have HT2 := Lib.hid hT2
          simp only [wordV] at hc1
          clear hasm hgl hlb hT1 hT2 htk hdf hcl
          generalize ts[k].1 = wd at *
          obtain ⟨q1, q2, q3, q4⟩ := hfa
          generalize BA wd = S at *
          have q2' := q2 (by omega)
          have q3' := q3 (by omega)
          clear q2 q3
          generalize BA m = mS at *
          have hTs : (BA T').size = T'.length := BA_size T'
          have hTs1 : (BA T').size ≤ T'.length := by omega
          have hTs2 : T'.length ≤ (BA T').size := by omega
          have hne : ((o + (T'.length : Int)) != (o + ((BA T').size : Int))) = false := by rw [hTs]; simp
          have hge : decide ((labs.length : Int) ≤ (d : Int)) = false := decide_eq_false (by omega)
          clear hTs
          generalize BA T' = TS at *
          have hq4 : (mS.toList != (S.extract 0 (S.size - 1)).toList) = false := by rw [bne, q4]; rfl
          go_wp2_with fail
          refine (HA2.out wr (hE2.ext hx)).mono ?_
          rintro e0 w5 ⟨A5, c5, rfl, hl5, hx5⟩
          have e1 := hx5.cell hl1
          have e2 := hx5.cell hl2
          have HM5 := Lib.hid (HM.out.ext hx5)
          have hlk : Hid (∀ W, Ext w5 W → (Instr.lookup 40 (.map (some w2.heap.size)) (.string S) false).run Tryd.prog W = .ok (.int .i64 0) W) := by
            intro W hW
            have := (HM5.out.ext hW).look S (by unfold maxLen; omega)
            rw [HMD.out, hmet.out] at this
            exact this
          go_wp2_with fail
          refine wp_region_grow (by kernel_rfl) (by kernel_rfl) ?_
          repeat
            first
            | (apply grow_is
               case h =>
                intro a w1 hg hs hsl
                clear hs
                simp at hsl
                try (first | (refine Exists.elim (row_spec hsl) ?_; rintro b ⟨hv, _, hh⟩) | (refine Exists.elim (row_spec hsl.1) ?_; rintro b ⟨hv, _, hh⟩))
                have e1 := hg.cell e1
                have e2 := hg.cell e2
                have hlk := hlk.out _ hg
                unfold growAt guardOk
                go_simp
                try go_bits
                try simp only [↓IntWalk.iteOmega]
                first
                  | exact grow_same
                  | exact is_skip
                  | exact rfl)
          refine grow_fin ?_
          intro w1 hw1
          simp only [List.reverse_cons, List.reverse_nil, List.nil_append, List.cons_append, FinT, Is, forall_eq, List.setIfInBounds_toArray, List.set_cons_succ, List.set_cons_zero]
          have HM6 := Lib.hid (HM5.out.ext hw1)
          have hlk6 := hlk.out _ hw1
          have hx6 := (hx.trans hx5).trans hw1
          go_wp2_with (at_mapUpdate; refine wpList_iset rfl _ _ _ rfl w2.heap.size k _ rfl HM6.out (by unfold maxLen; omega) S (by unfold maxLen; omega) 1 (by decide) rfl rfl ?_)
          intro w7 hm7 hg7
          have hx7 := hx6.grown hg7 (fun k hk => by cases hk; exact Nat.le_refl _)
          have HM7 := Lib.hid hm7
          have HG7 := Lib.hid hg7
          clear hm7 hg7
          go_wp2_with fail
          go_roundw
          case rel =>
            refine ⟨k + 1, d + 1, P, by omega, by go_num, rfl, by rw [hcw.out]; exact HP.out, by go_num, by omega, hdn.out, ?_, hx7⟩
            rw [hmet2.out]
            have := HM7.out
            rw [HMD.out] at this
            exact this
          case measure => simp [intOf]; omega
        | none =>
          have hmet : Hid (metF (ts.take (k + 1)) = metF (ts.take k)) := by show _ = _; rw [htake.out, metF_snoc, if_neg (by rw [hdf]; simp)]
          have hcw : Hid (codeW (ts.take (k + 1)) = codeW (ts.take k) ++ [repl ts[k].1]) := by show _ = _; rw [htake.out, codeW_snoc, hdf]
          have hdn : Hid (d = ((ts.take (k + 1)).filterMap (defN ·.1)).length) := by show _ = _; rw [htake.out, List.filterMap_append, List.length_append, ← HD.out]; simp [hdf]
          have hpos : 0 < (BA ts[k].1).size := by
            rw [BA_size]
            cases h : ts[k].1 with
            | nil => exact absurd h htk.1
            | cons _ _ => simp
          have hnf := none_facts HK.out (List.getElem_mem hlt) htk.1 hdf hpos
          have hsz2 : (BA ts[k].1).size ≤ 600 := by rw [BA_size]; have := htk.2.1; omega
          simp only [wordV] at hc1
          by_cases h38 : ts[k].1.head? = some 38
          · have HR : Hid (repl ts[k].1 = [48, 48, 48, 48, 48, 48]) := by show _ = _; unfold repl; rw [if_pos h38]; rfl
            rw [decide_eq_true h38] at hnf
            obtain ⟨n1, n2⟩ := hnf
            clear h38 htk hdf
            generalize ts[k].1 = wd at *
            generalize BA wd = S at *
            by_cases z1 : (S.size : Int) ≤ 1
            · have z1' := z1
              go_wp2_with fail
              go_roundw
              case rel =>
                refine ⟨k + 1, d, _, by omega, by go_num, rfl, ?_, rfl, by omega, hdn.out, ?_, hx⟩
                · rw [hcw.out, spW_snoc, ← HP.out]; simp [HR.out]
                · rw [hmet.out]; obtain ⟨D, y1, y2, y3⟩ := HM.out; exact ⟨D, y1.mono (by omega), y2, y3⟩
              case measure => simp [intOf]; omega
            · have z2 : 1 < (S.size : Int) := by omega
              clear z1
              cases z3 : ((((S[S.size - 1]'(by omega)).toNat : Nat) : Int) == 58)
              · have z4 := z3
                go_wp2_with fail
                go_roundw
                case rel =>
                  refine ⟨k + 1, d, _, by omega, by go_num, rfl, ?_, rfl, by omega, hdn.out, ?_, hx⟩
                  · rw [hcw.out, spW_snoc, ← HP.out]; simp [HR.out]
                  · rw [hmet.out]; obtain ⟨D, y1, y2, y3⟩ := HM.out; exact ⟨D, y1.mono (by omega), y2, y3⟩
                case measure => simp [intOf]; omega
              · have z4 := z3
                go_wp2_with fail
                go_roundw
                case rel =>
                  refine ⟨k + 1, d, _, by omega, by go_num, rfl, ?_, rfl, by omega, hdn.out, ?_, hx⟩
                  · rw [hcw.out, spW_snoc, ← HP.out]; simp [HR.out]
                  · rw [hmet.out]; obtain ⟨D, y1, y2, y3⟩ := HM.out; exact ⟨D, y1.mono (by omega), y2, y3⟩
                case measure => simp [intOf]; omega
          · have HR : Hid (repl ts[k].1 = (BA ts[k].1).data.toList) := by show _ = _; unfold repl; rw [if_neg h38]; rfl
            rw [decide_eq_false h38] at hnf
            obtain ⟨n1, n2⟩ := hnf
            clear h38 htk hdf
            generalize ts[k].1 = wd at *
            generalize BA wd = S at *
            by_cases z1 : (S.size : Int) ≤ 1
            · have z1' := z1
              go_wp2_with fail
              go_roundw
              case rel =>
                refine ⟨k + 1, d, _, by omega, by go_num, rfl, ?_, rfl, by omega, hdn.out, ?_, hx⟩
                · rw [hcw.out, spW_snoc, ← HP.out]; simp [HR.out]
                · rw [hmet.out]; obtain ⟨D, y1, y2, y3⟩ := HM.out; exact ⟨D, y1.mono (by omega), y2, y3⟩
              case measure => simp [intOf]; omega
            · have z2 : 1 < (S.size : Int) := by omega
              clear z1
              cases z3 : ((((S[S.size - 1]'(by omega)).toNat : Nat) : Int) == 58)
              · have z4 := z3
                go_wp2_with fail
                go_roundw
                case rel =>
                  refine ⟨k + 1, d, _, by omega, by go_num, rfl, ?_, rfl, by omega, hdn.out, ?_, hx⟩
                  · rw [hcw.out, spW_snoc, ← HP.out]; simp [HR.out]
                  · rw [hmet.out]; obtain ⟨D, y1, y2, y3⟩ := HM.out; exact ⟨D, y1.mono (by omega), y2, y3⟩
                case measure => simp [intOf]; omega
              · have z4 := z3
                go_wp2_with fail
                go_roundw
                case rel =>
                  refine ⟨k + 1, d, _, by omega, by go_num, rfl, ?_, rfl, by omega, hdn.out, ?_, hx⟩
                  · rw [hcw.out, spW_snoc, ← HP.out]; simp [HR.out]
                  · rw [hmet.out]; obtain ⟨D, y1, y2, y3⟩ := HM.out; exact ⟨D, y1.mono (by omega), y2, y3⟩
                case measure => simp [intOf]; omega
      · obtain rfl : k = ts.length := by omega
        obtain ⟨T', hT1, hT2⟩ := HF.out ts.length
        rw [List.take_length] at hT1 hT2
        have hP2 := HP.out
        rw [List.take_length] at hP2
        have hD2 := HD.out
        rw [List.take_length] at hD2
        have hasm := fun W (hW : Env W) => assemble_any P o W (by omega) hW
        rw [hP2, hT1] at hasm
        simp only [List.length_nil, List.map_nil] at hasm
        have hl1 : (BA T').size = T'.length := BA_size T'
        have hl2 : (BA T).size = T.length := BA_size T
        have hb1 : (((BA T').size : Int) == ((BA T).size : Int)) = true := by rw [hl1, hl2, hT2, HTX.out]; simp
        have hb2 : ((d : Int) == (labs.length : Int)) = true := by rw [HNUM.out, ← hD2]; simp
        have HA2 := Lib.hid hasm
        clear hasm hP2 hD2 hT1 hT2 hl1 hl2
        generalize BA T' = TS' at *
        generalize BA T = TS at *
        go_wp2_with fail
        refine (HA2.out wr (hE2.ext hx)).mono ?_
        rintro e0 w5 ⟨A5, c5, rfl, hl5, hx5⟩
        go_wp2_with fail
        refine (HAW.out _ ((hE2.ext hx).ext hx5)).mono ?_
        rintro e6 w6 ⟨rfl, hx6⟩
        go_wp2_with fail
        go_ret
        exact ⟨rfl, ((hx12.trans hx).trans hx5).trans hx6⟩
  · obtain ⟨h1, h2⟩ := asm_err he
    generalize asmA src.data.toList o = RA at *
    obtain ⟨T, labs, ln, er⟩ := RA
    simp only at he h1 h2 hA
    subst h1
    subst h2
    have he' : (er != 0) = true := bne_iff_ne.2 he
    have h0 : (BA []).toList = [] := BA_nil rfl
    simp only [List.length_nil, List.map_nil] at hA
    have HA := Lib.hid hA
    clear he hA hsl
    generalize BA [] = Z at *
    go_enter Tryd.func7, Tryd.ntmps7
    go_wp2_with fail
    refine (HA.out _ hE).mono ?_
    rintro e0 w1 ⟨A, cA, rfl, hlA, hx1⟩
    go_wp2_with fail
    refine (HAW.out _ (hE.ext hx1)).mono ?_
    rintro e6 w6 ⟨rfl, hx6⟩
    go_wp2_with fail
    go_ret
    exact ⟨rfl, hx1.trans hx6⟩
end Go.Proofs.YtimegcnpembhkaaDoor
