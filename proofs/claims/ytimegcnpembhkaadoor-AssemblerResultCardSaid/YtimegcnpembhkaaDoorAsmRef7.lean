/- The contracts of the reference of layer 18, seventh part: Assemble. -/
import Derived.Test.YtimegcnpembhkaaDoorAsmRef6
import Derived.Test.YtimegcnpembhkaaDoorGrow
import Derived.Test.YtimegcnpembhkaaDoorAsmCat
namespace Go.Proofs.YtimegcnpembhkaaDoor
open Go.RowKit
open Go.Lib hiding intOf
attribute [local simp] Slots Slot look Is Oper.looksAt Op.operands Call.operands
set_option linter.unusedVariables false

theorem chk_step (D : Bytes → Bool) (l : List Tok) (k : Nat) (h : k < l.length) :
    chkGo D (defd (l.take k)) (l.drop k) = if faultA D (defd (l.take k)) l[k] = 0 then chkGo D (defd (l.take (k + 1))) (l.drop (k + 1)) else ((l[k].2 : Int), faultA D (defd (l.take k)) l[k]) := by
  rw [List.drop_eq_getElem_cons h]
  generalize l.drop (k + 1) = r
  rw [List.take_succ_eq_append_getElem h]
  generalize l[k] = t
  generalize l.take k = p
  unfold faultA
  rw [chkGo]
  cases hd : defN t.1 with
  | some m =>
    simp only
    rw [defd_snoc_some hd]
    by_cases hm : defd p m = true
    · rw [if_pos hm, if_pos hm, if_neg (by decide)]
    · rw [if_neg hm, if_neg hm, if_pos rfl]
  | none =>
    simp only
    rw [defd_snoc_none hd]
    cases hr : refN t.1 with
    | some m =>
      simp only
      by_cases hm : D m = true
      · rw [if_pos hm, if_pos hm, if_pos rfl]
      · rw [if_neg hm, if_neg hm, if_neg (by decide)]
    | none =>
      simp only
      by_cases hm : codeB t.1 = true
      · rw [if_pos hm, if_pos hm, if_pos rfl]
      · rw [if_neg hm, if_neg hm, if_neg (by decide)]
theorem defd_nil : defd [] = fun _ => false := rfl

/-- where no token is faulty the labels are distinct -/
theorem labs_nodup (f : Bytes → Int) (o : Int) : ∀ (l : List Tok) (p : List Tok) (D : Bytes → Bool) (text : Bytes) (labs : List Lab), (∀ n, n ∈ labs.map (·.1) → defd p n = true) → (labs.map (·.1)).Nodup → (chkGo D (defd p) l).2 = 0 → ((buildA f o text labs l).2.map (·.1)).Nodup := by
  intro l
  induction l with
  | nil => intro p D text labs _ h _; exact h
  | cons t r ih =>
    intro p D text labs hin hnd hc
    rw [chkGo] at hc
    unfold buildA
    cases hd : defN t.1 with
    | some m =>
      rw [hd] at hc
      simp only at hc ⊢
      by_cases hm : defd p m = true
      · rw [if_pos hm] at hc; simp at hc
      · rw [if_neg hm, ← defd_snoc_some hd] at hc
        refine ih (p ++ [t]) D text _ ?_ ?_ hc
        · intro n hn
          rw [defd_snoc_some hd]
          unfold setB
          by_cases e : n = m
          · rw [if_pos e]
          · rw [if_neg e]
            refine hin n ?_
            simp at hn
            rcases hn with h | h
            · simpa using h
            · exact absurd h e
        · rw [List.map_append, List.nodup_append]
          refine ⟨hnd, by simp, fun a ha b hb e => ?_⟩
          simp at hb
          subst hb
          subst e
          exact hm (hin _ ha)
    | none =>
      rw [hd] at hc
      simp only at hc ⊢
      have hp : ∀ n, n ∈ labs.map (·.1) → defd (p ++ [t]) n = true := by
        intro n hn; rw [defd_snoc_none hd]; exact hin n hn
      rw [← defd_snoc_none hd] at hc
      cases hr : refN t.1 with
      | some m =>
        rw [hr] at hc
        simp only at hc
        by_cases hm : D m = true
        · rw [if_pos hm] at hc
          exact ih (p ++ [t]) D _ labs hp hnd hc
        · rw [if_neg hm] at hc; simp at hc
      | none =>
        rw [hr] at hc
        simp only at hc
        by_cases hm : codeB t.1 = true
        · rw [if_pos hm] at hc
          exact ih (p ++ [t]) D _ labs hp hnd hc
        · rw [if_neg hm] at hc; simp at hc

theorem line_le (s : Bytes) : ∀ t ∈ toks s, t.2 ≤ s.length + 1 := by
  have key : ∀ (r : Bytes) (n : Nat) (cur : Bytes) (com : Bool), ∀ t ∈ scan r n cur com, t.2 ≤ n + r.length := by
    intro r
    induction r with
    | nil =>
      intro n cur com t ht
      unfold scan at ht
      split at ht
      · cases ht
      · obtain rfl : t = (cur, n) := by simpa using ht
        exact Nat.le_refl _
    | cons c r ih =>
      intro n cur com t ht
      have one : ∀ m : Nat, t ∈ (if cur = [] then [] else [(cur, n)]) → t.2 ≤ n + (c :: r).length := by
        intro m hm
        split at hm
        · cases hm
        · obtain rfl : t = (cur, n) := by simpa using hm
          simp
      by_cases h10 : c = 10
      · subst h10
        rw [scan_nl, List.mem_append] at ht
        rcases ht with h | h
        · exact one n h
        · have := ih _ _ _ t h; simp; omega
      · cases com with
        | true => rw [scan_com _ _ _ _ h10] at ht; have := ih _ _ _ t ht; simp; omega
        | false =>
          by_cases h35 : c = 35
          · subst h35
            rw [scan_hash, List.mem_append] at ht
            rcases ht with h | h
            · exact one n h
            · have := ih _ _ _ t h; simp; omega
          · by_cases h32 : c = 32
            · subst h32
              rw [scan_sp, List.mem_append] at ht
              rcases ht with h | h
              · exact one n h
              · have := ih _ _ _ t h; simp; omega
            · rw [scan_other _ _ _ _ h10 h35 h32] at ht
              have := ih _ _ _ t ht; simp; omega
  intro t ht
  rw [← scan_toks] at ht
  have := key _ _ _ _ t ht
  omega

set_option maxHeartbeats 4000000 in
set_option maxRecDepth 100000 in
theorem rAssemble_any (src : ByteArray) (origin : Int) (w : World) (hs : src.size ≤ 100000) :
    Calls Tryd.prog 13 #[.string src, .int .i64 origin] w fun e w' => ∃ A cap, e = .returned (.tuple #[.string (BA (asmA src.data.toList origin).1), .slice A (asmA src.data.toList origin).2.1.length cap, .int .i64 (asmA src.data.toList origin).2.2.1, .int .i64 (asmA src.data.toList origin).2.2.2]) ∧
      HLst w' A (asmA src.data.toList origin).2.1.length cap ((asmA src.data.toList origin).2.1.map labH) ∧ Ext w w' := by
  have empt : ∀ W : World, HLst (W.alloc (.cells #[] 30)) (some ⟨W.heap.size, 0, none⟩) 0 0 [] := fun W => ⟨rfl, Nat.le_refl _, Nat.zero_le _, fun h => absurd h (Nat.lt_irrefl _)⟩
  by_cases h1 : origin < 0 ∨ 262144 ≤ origin
  · have ha : asmA src.data.toList origin = ([], [], 0, 2) := by unfold asmA; rw [if_pos h1]
    rw [ha]
    clear ha
    by_cases h2 : origin < 0
    · clear h1
      go_enter Tryd.func13, Tryd.ntmps13
      go_wp2_with fail
      refine bodyPost_ret (v := .tuple #[.string (BA []), .slice (some ⟨w.heap.size, 0, none⟩) 0 0, .int .i64 0, .int .i64 2]) (by simp [results, Tryd.results13, go_sem]; rfl) rfl ⟨_, 0, rfl, empt w, (Ext.refl w).alloc _⟩
    · have h3 : 262144 ≤ origin := by omega
      clear h1
      go_enter Tryd.func13, Tryd.ntmps13
      go_wp2_with fail
      refine bodyPost_ret (v := .tuple #[.string (BA []), .slice (some ⟨w.heap.size, 0, none⟩) 0 0, .int .i64 0, .int .i64 2]) (by simp [results, Tryd.results13, go_sem]; rfl) rfl ⟨_, 0, rfl, empt w, (Ext.refl w).alloc _⟩
  · have g1 : 0 ≤ origin := by omega
    have g2 : origin < 262144 := by omega
    have hsl : src.data.toList.length = src.size := rfl
    have htl := toks_length src.data.toList
    have htm := toks_mem src.data.toList
    have hll := line_le src.data.toList
    rw [hsl] at htl hll
    have htk := fun W => rwords_any src W (by omega)
    have hasm : asmA src.data.toList origin = (if (chkA (toks src.data.toList)).2 ≠ 0 then ([], [], (chkA (toks src.data.toList)).1, (chkA (toks src.data.toList)).2)
        else if 40000 < (buildA (lookI (buildA (fun _ => 0) origin [] [] (toks src.data.toList)).2) origin [] [] (toks src.data.toList)).1.length then ([], [], 0, 6)
        else ((buildA (lookI (buildA (fun _ => 0) origin [] [] (toks src.data.toList)).2) origin [] [] (toks src.data.toList)).1, (buildA (lookI (buildA (fun _ => 0) origin [] [] (toks src.data.toList)).2) origin [] [] (toks src.data.toList)).2, 0, 0)) := by
      conv => lhs; unfold asmA
      rw [if_neg h1]
    generalize asmA src.data.toList origin = R at *
    generalize toks src.data.toList = ts at *
    have hfit2 : Fits2 ts := fun t ht => ⟨by have := (htm t ht).2.1; omega, (htm t ht).1⟩
    have hbl := buildA_labs (fun _ => 0) (fun _ => Int.le_refl _) origin ts [] [] hfit2
    have hsame : (buildA (lookI (buildA (fun _ => 0) origin [] [] ts).2) origin [] [] ts).2 = (buildA (fun _ => 0) origin [] [] ts).2 := build_labels _ _ origin ts
    have hj1 := fun A n cap B cB W h1 h2 h3 => rBuild_any A n cap ts origin B 0 cB [] W h1 h2 hfit2 h3 g1 (by omega) (fun _ => ⟨Int.le_refl _, (by decide : (0 : Int) ≤ 1099511627776)⟩)
    have e0 : lookF [] = fun _ => 0 := rfl
    rw [e0] at hj1
    have hlk : ∀ k, 0 ≤ lookF (buildA (fun _ => 0) origin [] [] ts).2 k ∧ lookF (buildA (fun _ => 0) origin [] [] ts).2 k ≤ 1099511627776 := by
      intro k
      rcases lookF_mem (buildA (fun _ => 0) origin [] [] ts).2 k with h | ⟨x, hx, h⟩
      · rw [h]; exact ⟨Int.le_refl _, by decide⟩
      · rcases hbl.2 x hx with h' | ⟨_, h4, h5⟩
        · cases h'
        · rw [h]; simp at h5; omega
    have hnd : (chkA ts).2 = 0 → lookF (buildA (fun _ => 0) origin [] [] ts).2 = lookI (buildA (fun _ => 0) origin [] [] ts).2 := by
      intro h
      refine lookF_lookI _ (labs_nodup _ origin ts [] (defd ts) [] [] (by simp) (by simp) ?_)
      exact h
    have hj2 := fun A n cap B m cB W h1 h2 h3 => rBuild_any A n cap ts origin B m cB (buildA (fun _ => 0) origin [] [] ts).2 W h1 h2 hfit2 h3 g1 (by omega) hlk
    have hfl := fun A n cap W q hq t ht h1 h2 => rFault_any A n cap ts W q hq t ht h1 hfit2 h2
    have hchk : chkGo (defd ts) (defd (ts.take 0)) (ts.drop 0) = chkA ts := rfl
    have hstep := fun k h => chk_step (defd ts) ts k h
    have T1 := Lib.hid htk
    have T2 := Lib.hid hfl
    have T3 := Lib.hid hj1
    have T4 := Lib.hid hj2
    have HA := Lib.hid hasm
    have HB := Lib.hid hbl
    have HND := Lib.hid hnd
    have HSM := Lib.hid hsame
    have HST := Lib.hid hstep
    have HCK := Lib.hid hchk
    have HLL := Lib.hid hll
    clear htk hfl hj1 hj2 hasm hbl htm hll hfit2 hlk hsl hsame hnd hstep hchk e0 h1
    go_enter Tryd.func13, Tryd.ntmps13
    go_wp2_with fail
    refine (T1.out _).mono ?_
    rintro e w1 ⟨v, rfl, hown, hx1⟩
    obtain ⟨A, cap, rfl, hl1⟩ : ∃ A cap, v = .slice A ts.length cap ∧ HLst w1 A ts.length cap (ts.map tokH) := by
      have := HLst.of_own (l := ts.map tokH) (by rw [List.length_map]; exact hown)
      rwa [List.length_map] at this
    have hroom := hl1.room
    have hmax := hl1.max
    unfold maxLen at hmax
    have HL := Lib.hid hl1
    clear hown hl1
    go_wp2_with fail
    go_loop [9, 10] (fun i ev => ∃ k : Nat, k ≤ ts.length ∧ i = .int .i64 k ∧ chkGo (defd ts) (defd (ts.take k)) (ts.drop k) = chkA ts) (fun i _ => ts.length - (intOf i).toNat)
    case atStart => exact ⟨0, Nat.zero_le _, rfl, HCK.out⟩
    case round =>
      obtain ⟨k, hk, rfl, hck⟩ := hrel
      by_cases hlt : k < ts.length
      · have hF := T2.out A ts.length cap w1 k hlt ts[k] (List.getElem?_eq_getElem hlt) HL.out (by omega)
        have hst := HST.out k hlt
        obtain ⟨b, off, rfl, hc⟩ := HL.out.at_ (by omega)
        have hc2 := (hc k (by rw [List.length_map]; exact hlt)).2
        rw [List.getElem_map] at hc2
        have hline := HLL.out ts[k] (List.getElem_mem hlt)
        generalize ts[k] = t at *
        unfold tokH at hc2
        simp only at hc2
        generalize hfa : faultA (defd ts) (defd (ts.take k)) t = fa at *
        have F := Lib.hid hF
        clear hF hc hfa
        by_cases hz : fa = 0
        · have hnx : Hid (chkGo (defd ts) (defd (ts.take (k + 1))) (ts.drop (k + 1)) = chkA ts) := by
            show _ = _
            rw [← hck, hst, if_pos hz]
          subst hz
          clear hst hck
          generalize (t.2 : Int) = z at *
          go_wp2_with fail
          refine F.out.mono ?_
          rintro e w2 ⟨rfl, rfl⟩
          go_wp2_with fail
          go_round
          case rel => exact ⟨k + 1, by omega, by go_num, hnx.out⟩
          case measure => simp [intOf]; omega
        · have hfin : Hid (R = ([], [], (t.2 : Int), fa)) := by
            show _ = _
            have h2 : chkA ts = ((t.2 : Int), fa) := by rw [← hck, hst, if_neg hz]
            rw [HA.out, h2, if_pos hz]
          have hz' : (fa != 0) = true := bne_iff_ne.2 hz
          clear hst hck hz
          generalize (t.2 : Int) = z at *
          go_wp2_with fail
          refine F.out.mono ?_
          rintro e w2 ⟨rfl, rfl⟩
          go_wp2_with fail
          refine wp_region_grow (by kernel_rfl) (by kernel_rfl) ?_
          repeat
            first
            | (apply grow_is
               case h =>
                intro a w1 hg hs hsl
                clear hs
                try simp at hsl
                try (first | (refine Exists.elim (row_spec hsl) ?_; rintro b ⟨hv, _, hh⟩) | (refine Exists.elim (row_spec hsl.1) ?_; rintro b ⟨hv, _, hh⟩))
                have hcz := hg.cell hc2
                unfold growAt guardOk
                go_simp
                try go_bits
                try simp only [↓IntWalk.iteOmega]
                first
                  | exact grow_same
                  | exact is_skip
                  | exact rfl)
            | (refine grow_in (Row w1 #[] 30 0 0) (Up.row _ _ _ _ _) ?_ ?_
               · intro a w1 hg hs hsl
                 clear hs
                 try simp at hsl
                 try (first | (refine Exists.elim (row_spec hsl) ?_; rintro b ⟨hv, _, hh⟩) | (refine Exists.elim (row_spec hsl.1) ?_; rintro b ⟨hv, _, hh⟩))
                 have hcz := hg.cell hc2
                 unfold growAt guardOk
                 go_simp
                 try go_bits
                 try simp only [↓IntWalk.iteOmega]
                 with_reducible exact row_new hg)
            | (refine grow_in (Row w1 #[] 30 0 0) (Up.row _ _ _ _ _) ?_ ?_
               · intro a w1 hg hs hsl
                 clear hs
                 try simp at hsl
                 try (first | (refine Exists.elim (row_spec hsl) ?_; rintro b ⟨hv, _, hh⟩) | (refine Exists.elim (row_spec hsl.1) ?_; rintro b ⟨hv, _, hh⟩))
                 have hcz := hg.cell hc2
                 unfold growAt guardOk
                 go_simp
                 try go_bits
                 try simp only [↓IntWalk.iteOmega]
                 exact grow_value (Ext.refl _) ⟨_, rfl, by assumption, hh⟩)
          refine grow_fin ?_
          intro w1 hw1
          simp only [List.reverse_cons, List.reverse_nil, List.nil_append, List.cons_append, FinT, Is, forall_eq, List.setIfInBounds_toArray, List.set_cons_succ, List.set_cons_zero]
          intro v1 hv1 v2 hv2
          obtain ⟨bb, rfl, _, hh⟩ := hv2
          go_wp2_with fail
          refine bodyPost_ret (v := .tuple #[.string (BA []), .slice (some ⟨bb, 0, none⟩) 0 0, .int .i64 z, .int .i64 fa]) (by simp [results, Tryd.results13, go_sem]; rfl) rfl ⟨_, 0, by rw [hfin.out]; rfl, by rw [hfin.out]; exact ⟨rfl, Nat.le_refl _, Nat.zero_le _, fun h => absurd h (Nat.lt_irrefl _)⟩, hx1.trans hw1⟩
      · obtain rfl : k = ts.length := by omega
        have h0 : (chkA ts).2 = 0 := by rw [← hck, List.drop_length]; rfl
        have hlf := HND.out h0
        have hR1 : Hid (R = if 40000 < (buildA (lookI (buildA (fun _ => 0) origin [] [] ts).2) origin [] [] ts).1.length then ([], [], 0, 6) else ((buildA (lookI (buildA (fun _ => 0) origin [] [] ts).2) origin [] [] ts).1, (buildA (fun _ => 0) origin [] [] ts).2, 0, 0)) := by
          show _ = _
          rw [HA.out, if_neg (by simp [h0]), HSM.out]
        have T5 := T4.out
        rw [hlf] at T5
        have T6 := Lib.hid T5
        clear hck h0 hlf T5 HA HSM HND T4 HCK HST HLL T2
        generalize hL1 : buildA (fun _ => 0) origin [] [] ts = L1 at *
        generalize hL2 : buildA (lookI L1.2) origin [] [] ts = L2 at *
        clear hL1 hL2
        have hLs := HL.out.ext ((Ext.refl w1).alloc (.cells #[] 30))
        go_wp2_with fail
        refine (T3.out A ts.length cap _ _ _ hLs (empt w1) (by omega)).mono ?_
        rintro e w3 ⟨v3, rfl, hown3, hx3⟩
        have hx13 : Ext w1 w3 := ((Ext.refl w1).alloc _).trans hx3
        obtain ⟨A3, cap3, rfl, hl3⟩ : ∃ A cap, v3 = .slice A L1.2.length cap ∧ HLst w3 A L1.2.length cap (L1.2.map labH) := by
          have := HLst.of_own (l := L1.2.map labH) (by rw [List.length_map]; exact hown3)
          rwa [List.length_map] at this
        clear hown3
        have hls3 := HL.out.ext hx13
        go_wp2_with fail
        refine (T6.out A ts.length cap A3 L1.2.length cap3 w3 hls3 hl3 (by omega)).mono ?_
        rintro e w4 ⟨v4, rfl, hown4, hx4⟩
        have hl4 := hl3.ext hx4
        have hsz := BA_size L2.1
        clear hown4
        by_cases hlim : 40000 < ((BA L2.1).size : Int)
        · have hR : Hid (R = ([], [], 0, 6)) := by show _ = _; rw [hR1.out, if_pos (by omega)]
          clear hsz
          go_wp2_with fail
          refine bodyPost_ret (v := .tuple #[.string (BA []), .slice (some ⟨w4.heap.size, 0, none⟩) 0 0, .int .i64 0, .int .i64 6]) (by simp [results, Tryd.results13, go_sem]; rfl) rfl ⟨_, 0, by rw [hR.out]; rfl, by rw [hR.out]; exact empt w4, ((hx1.trans hx13).trans hx4).alloc _⟩
        · have hR : Hid (R = (L2.1, L1.2, 0, 0)) := by show _ = _; rw [hR1.out, if_neg (by omega)]
          clear hsz
          go_wp2_with fail
          refine bodyPost_ret (v := .tuple #[.string (BA L2.1), .slice A3 L1.2.length cap3, .int .i64 0, .int .i64 0]) (by simp [results, Tryd.results13, go_sem]) rfl ⟨A3, cap3, by rw [hR.out], by rw [hR.out]; exact hl4, (hx1.trans hx13).trans hx4⟩
end Go.Proofs.YtimegcnpembhkaaDoor
