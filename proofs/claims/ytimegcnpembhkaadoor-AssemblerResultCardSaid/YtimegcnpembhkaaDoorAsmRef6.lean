/- The contracts of the reference of layer 18, sixth part: build, Assemble. -/
import Derived.Test.YtimegcnpembhkaaDoorAsmRef3
import Derived.Test.YtimegcnpembhkaaDoorAsmRef4
namespace Go.Proofs.YtimegcnpembhkaaDoor
open Go.RowKit
open Go.Lib hiding intOf
set_option linter.unusedVariables false

theorem lookF_mem (labs : List Lab) (n : Bytes) : lookF labs n = 0 ∨ ∃ x ∈ labs, lookF labs n = x.2 := by
  induction labs with
  | nil => exact Or.inl rfl
  | cons x r ih =>
    unfold lookF
    by_cases h : x.1 = n
    · rw [if_pos h]; exact Or.inr ⟨x, by simp, rfl⟩
    · rw [if_neg h]
      rcases ih with h2 | ⟨y, hy, h2⟩
      · exact Or.inl h2
      · exact Or.inr ⟨y, by simp [hy], h2⟩
/-- the first and the last label of a name are one, where names are distinct -/
theorem lookF_snoc (labs : List Lab) (x : Lab) (h : x.1 ∉ labs.map (·.1)) (n : Bytes) : lookF (labs ++ [x]) n = if n = x.1 then x.2 else lookF labs n := by
  induction labs with
  | nil =>
    simp only [List.nil_append, lookF]
    by_cases e : n = x.1
    · subst e; simp
    · have : ¬ x.1 = n := fun h => e h.symm
      simp [e, this]
  | cons y r ih =>
    simp only [List.map_cons, List.mem_cons, not_or] at h
    rw [List.cons_append, lookF, ih h.2]
    by_cases e : n = x.1
    · subst e
      have : ¬ y.1 = x.1 := fun e => h.1 e.symm
      simp [this]
    · simp only [if_neg e]
      rw [lookF]
theorem lookF_lookI (labs : List Lab) (hnd : (labs.map (·.1)).Nodup) : lookF labs = lookI labs := by
  have key : ∀ l : List Lab, (l.reverse.map (·.1)).Nodup → lookF l.reverse = lookI l.reverse := by
    intro l
    induction l with
    | nil => intro _; rfl
    | cons x l ih =>
      intro h
      rw [List.reverse_cons, List.map_append, List.nodup_append] at h
      funext n
      rw [List.reverse_cons, lookI_snoc]
      rw [lookF_snoc _ _ (fun hm => h.2.2 _ hm x.1 (by simp) rfl)]
      unfold setI
      rw [ih h.1]
  have := key labs.reverse
  rw [List.reverse_reverse] at this
  exact this hnd

set_option maxHeartbeats 4000000 in
set_option maxRecDepth 100000 in
theorem rBuild_any (A : Option Addr) (n cap : Nat) (l : List Tok) (origin : Int) (B : Option Addr) (m capB : Nat) (kn : List Lab) (w : World) (hl : HLst w A n cap (l.map tokH)) (hk : HLst w B m capB (kn.map labH)) (hf : Fits2 l) (hn : n ≤ 100000) (ho : 0 ≤ origin) (ho2 : origin ≤ 1000000)
    (hf0 : ∀ k, 0 ≤ lookF kn k ∧ lookF kn k ≤ 1099511627776) :
    Calls Tryd.prog 32 #[.slice A n cap, .int .i64 origin, .slice B m capB] w fun e w' => ∃ v, e = .returned (.tuple #[.string (BA (buildA (lookF kn) origin [] [] l).1), v]) ∧ w'.ownsRow w.heap.size 30 2 v (buildA (lookF kn) origin [] [] l).2.length (holdCells ((buildA (lookF kn) origin [] [] l).2.map labH)) ∧ Ext w w' := by
  obtain ⟨i0, hi, hz0, hz1, hz2⟩ := info_parts Tryd.infoSym
  have hlen : n = l.length := by simpa using hl.len
  have hroom := hl.room
  have hmax := hl.max
  unfold maxLen at hmax
  obtain ⟨R, hR⟩ : ∃ R, R = buildA (lookF kn) origin [] [] l := ⟨_, rfl⟩
  rw [← hR]
  have HRR := Lib.hid hR
  have HL := Lib.hid hlen
  have HF := Lib.hid hf
  have HH := Lib.hid hl
  have hka := fun nm W (hW : Ext w W) => rAddress_any B m capB kn nm W (hk.ext hW)
  have HK := Lib.hid hka
  have HF0 := Lib.hid hf0
  clear hlen hf hl hk hka hf0 hR
  go_enter Tryd.func32, Tryd.ntmps32
  go_wp2_with fail
  have he0 := Lib.hid (own_empty w w.heap.size 30 2 (Nat.le_refl _))
  go_loopw [8, 9, 10, 11, 12, 20, 39] (fun tv lv i a b c d wr => ∃ k : Nat, ∃ text : Bytes, ∃ labs : List Lab, k ≤ n ∧ i = .int .i64 k ∧ tv = .string (BA text) ∧ buildA (lookF kn) origin text labs (l.drop k) = R ∧ text.length ≤ k * 100010 ∧ labs.length ≤ k ∧ wr.ownsRow w.heap.size 30 2 lv labs.length (holdCells (labs.map labH)) ∧ Ext w wr) (fun _ _ i _ _ _ _ _ => n - (intOf i).toNat)
  case atStart => exact ⟨0, [], [], Nat.zero_le _, rfl, rfl, HRR.out.symm, Nat.zero_le _, Nat.zero_le _, he0.out, (Ext.refl w).alloc _⟩
  case round =>
    obtain ⟨k, text, labs, hk, rfl, rfl, hbl, htl, hll, hown, hx⟩ := hrel
    have HBL := Lib.hid hbl
    have HO := Lib.hid hown
    have hts0 := BA_size text
    have hjn := fun m W (h1 : (m.size : Int) ≤ 1000000) => rJoin_any (BA text) m W (by rw [BA_size]; omega) h1
    rw [BA_data] at hjn
    have HJ := Lib.hid hjn
    clear hbl hown hjn
    by_cases hlt : k < n
    · obtain ⟨b, off, rfl, hc⟩ := HH.out.at_ (by omega)
      have hkl : k < l.length := by have := HL.out; omega
      have hc1 := hx.cell (hc k (by rw [List.length_map]; exact hkl)).1
      have hc2 := hx.cell (hc k (by rw [List.length_map]; exact hkl)).2
      rw [List.getElem_map] at hc1 hc2
      have hts := HF.out l[k] (List.getElem_mem hkl)
      have hdrop : l.drop k = l[k] :: l.drop (k + 1) := List.drop_eq_getElem_cons hkl
      have hstep : Hid (R = match defN l[k].1 with
          | some m => buildA (lookF kn) origin text (labs ++ [(m, origin + text.length)]) (l.drop (k + 1))
          | none => buildA (lookF kn) origin (glue text (addS (lookF kn) l[k])) labs (l.drop (k + 1))) := by
        show _ = _
        rw [← HBL.out, hdrop]; rfl
      clear hdrop
      generalize l[k] = t at *
      unfold tokH at hc1 hc2
      simp only at hc1 hc2
      have hsz : (BA t.1).size ≤ 100000 := by rw [BA_size]; exact hts.1
      have hdef := fun W => rDefines_any (BA t.1) W (by unfold maxLen; omega)
      have hrf := fun W => rRefers_any (BA t.1) W (by unfold maxLen; omega)
      rw [BA_data] at hdef hrf
      have HC := Lib.hid hc
      clear hc
      cases hd : defN t.1 with
      | some mm =>
        have htl' : text.length ≤ (k + 1) * 100010 := Nat.le_trans htl (Nat.mul_le_mul_right _ (Nat.le_succ k))
        unfold defV at hdef
        rw [hd] at hdef
        simp only at hdef
        have hst : Hid (buildA (lookF kn) origin text (labs ++ [(mm, origin + text.length)]) (l.drop (k + 1)) = R) := by
          show _ = _
          rw [hstep.out, hd]
        have hcell : Hid (holdCells ((labs ++ [(mm, origin + text.length)]).map labH) = holdCells (labs.map labH) ++ [.string (BA mm), .int .i64 (origin + text.length)]) := by
          show _ = _
          rw [List.map_append, List.map_cons, List.map_nil, holdCells_snoc]
          rfl
        have H1 := Lib.hid hdef
        clear hdef hrf hd hstep hts
        obtain ⟨TX, hTX⟩ : ∃ TX, TX = BA text := ⟨_, rfl⟩
        have HTX := Lib.hid hTX
        rw [← hTX] at hts0 ⊢
        clear hTX
        generalize BA t.1 = s at *
        generalize (t.2 : Int) = z at *
        generalize BA mm = sm at *
        go_wp2_with fail
        refine (H1.out _).mono ?_
        rintro e w2 ⟨rfl, rfl⟩
        go_wp2_with (at_builtin; refine wpList_append_own _ rfl (.tmp 30) (.tmp 37) _ rfl w.heap.size 30 i0 _ 2 24 Tryd.underlying23 hi hz0 hz1 hz2 rfl (by omega) _ _ _ rfl (HO.out.alloc _) ⟨wr.heap.size, 0, none⟩ 1 1 [.string sm, .int .i64 (origin + text.length)] rfl rfl ?c1 ?c2 ?c3 ?c4 ?c5 ?_)
        case c1 =>
          intro j u hu
          match j, hu with
          | 0, hu => simp at hu; subst hu; go_cell
          | 1, hu => simp at hu; subst hu; simp [Addr.add]
        case c2 =>
          intro u hu
          simp at hu
          rcases hu with rfl | rfl <;> rfl
        case c3 => unfold maxLen; omega
        case c4 => omega
        case c5 => (have hc5 := hx.size; try simp at hc5); simp; omega
        intro v' w2 hown2 hgr _
        have hx3 := (hx.alloc (.cells #[.string sm, .int .i64 (origin + text.length)] 30)).grown hgr (fun k hk => (HO.out.lt k hk).1)
        have HO2 := Lib.hid hown2
        have HG := Lib.hid hgr
        clear hown2 hgr
        go_wp2_with fail
        go_roundw
        case rel =>
          refine ⟨k + 1, text, _, by omega, by go_num, by rw [HTX.out], hst.out, htl', by simp; omega, ?_, hx3⟩
          rw [hcell.out, List.length_append]
          exact HO2.out
        case measure => simp [intOf]; omega
      | none =>
        unfold defV at hdef
        rw [hd] at hdef
        simp only at hdef
        have H1 := Lib.hid hdef
        clear hdef
        cases hr : refN t.1 with
        | some mm =>
          unfold refV at hrf
          rw [hr] at hrf
          simp only at hrf
          have H2 := Lib.hid hrf
          have hf1 := HF0.out mm
          have hst : Hid (buildA (lookF kn) origin (glue text (sixA (lookF kn mm))) labs (l.drop (k + 1)) = R) := by
            show _ = _
            rw [hstep.out, hd]
            simp only [addS, hr]
          have hgl : (glue text (sixA (lookF kn mm))).length ≤ (k + 1) * 100010 := by
            have := glue_length text (sixA (lookF kn mm))
            rw [sixA_length _ hf1.1] at this
            omega
          have hka := fun W (hW : Ext w W) => HK.out mm W hW
          obtain ⟨q, hq⟩ := Int.eq_ofNat_of_zero_le hf1.1
          have hsx := fun W => rSix_any q (by rw [← show lookF kn mm = (q : Int) from hq]; exact hf1.2) W
          rw [hq] at hka hst hgl
          have e6 : sixA ((q : Nat) : Int) = digs 6 q := sixA_digs q
          change Hid (buildA (lookF kn) origin (glue text (sixA ((q : Nat) : Int))) labs (l.drop (k + 1)) = R) at hst
          change (glue text (sixA ((q : Nat) : Int))).length ≤ _ at hgl
          rw [e6] at hst hgl
          have hj := fun W => HJ.out (BA (digs 6 q)) W (by rw [BA_size, digs_length]; decide)
          rw [BA_data] at hj
          have H3 := Lib.hid hka
          have H4 := Lib.hid hsx
          have H5 := Lib.hid hj
          clear hrf hka hsx hj hd hr hstep hq hf1 e6
          generalize BA t.1 = s at *
          generalize (t.2 : Int) = z at *
          generalize BA mm = sm at *
          generalize BA (digs 6 q) = S6 at *
          obtain ⟨NT, hNT⟩ : ∃ NT, NT = glue text (digs 6 q) := ⟨_, rfl⟩
          rw [← hNT] at hst hgl H5
          clear hNT
          generalize BA text = TX at *
          go_wp2_with fail
          refine (H1.out _).mono ?_
          rintro e w2 ⟨rfl, rfl⟩
          go_wp2_with fail
          refine (H2.out _).mono ?_
          rintro e w2 ⟨rfl, rfl⟩
          go_wp2_with fail
          refine (H3.out _ hx).mono ?_
          rintro e w2 ⟨rfl, rfl⟩
          go_wp2_with fail
          refine (H4.out _).mono ?_
          rintro e w2 ⟨rfl, hx2⟩
          have HO2 := Lib.hid (own_ext HO.out hx2)
          have hx3 := hx.trans hx2
          go_wp2_with fail
          refine (H5.out _).mono ?_
          rintro e w3 ⟨rfl, rfl⟩
          go_wp2_with fail
          go_roundw
          case rel => exact ⟨k + 1, NT, labs, by omega, by go_num, rfl, hst.out, hgl, by omega, HO2.out, hx3⟩
          case measure => simp [intOf]; omega
        | none =>
          unfold refV at hrf
          rw [hr] at hrf
          simp only at hrf
          have H2 := Lib.hid hrf
          have hst : Hid (buildA (lookF kn) origin (glue text t.1) labs (l.drop (k + 1)) = R) := by
            show _ = _
            rw [hstep.out, hd]
            simp only [addS, hr]
          have hgl : (glue text t.1).length ≤ (k + 1) * 100010 := by
            have := glue_length text t.1
            have := hts.1
            omega
          have hj := fun W => HJ.out (BA t.1) W (by omega)
          rw [BA_data] at hj
          have H5 := Lib.hid hj
          clear hrf hj hd hr hstep hts
          obtain ⟨NT, hNT⟩ : ∃ NT, NT = glue text t.1 := ⟨_, rfl⟩
          rw [← hNT] at hst hgl H5
          clear hNT
          generalize BA t.1 = s at *
          generalize (t.2 : Int) = z at *
          generalize BA text = TX at *
          go_wp2_with fail
          refine (H1.out _).mono ?_
          rintro e w2 ⟨rfl, rfl⟩
          go_wp2_with fail
          refine (H2.out _).mono ?_
          rintro e w2 ⟨rfl, rfl⟩
          go_wp2_with fail
          refine (H5.out _).mono ?_
          rintro e w3 ⟨rfl, rfl⟩
          go_wp2_with fail
          go_roundw
          case rel => exact ⟨k + 1, NT, labs, by omega, by go_num, rfl, hst.out, hgl, by omega, HO.out, hx⟩
          case measure => simp [intOf]; omega
    · obtain rfl : k = n := by omega
      have hfin : Hid (R = (text, labs)) := by
        show _ = _
        rw [← HBL.out, List.drop_of_length_le (by have := HL.out; omega)]
        rfl
      go_wp2_with fail
      go_ret2
      exact ⟨_, by rw [hfin.out]; rfl, by rw [hfin.out]; exact HO.out, hx⟩
end Go.Proofs.YtimegcnpembhkaaDoor
