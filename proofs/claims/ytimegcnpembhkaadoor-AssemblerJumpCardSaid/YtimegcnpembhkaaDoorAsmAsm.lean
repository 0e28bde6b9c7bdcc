/- The contract of Assemble. -/
import Derived.Test.YtimegcnpembhkaaDoorAsmJoin
namespace Go.Proofs.YtimegcnpembhkaaDoor
open Go.RowKit
open Go.Lib hiding intOf
set_option linter.unusedVariables false

/-- the addresses of labels -/
def lookI (labs : List Lab) : Bytes → Int := labs.foldl (fun f x => setI f x.1 x.2) (fun _ => 0)
theorem lookI_snoc (labs : List Lab) (x : Lab) : lookI (labs ++ [x]) = setI (lookI labs) x.1 x.2 := by
  unfold lookI; rw [List.foldl_append]; rfl
theorem lookI_mem (labs : List Lab) (n : Bytes) : lookI labs n = 0 ∨ ∃ x ∈ labs, lookI labs n = x.2 := by
  have key : ∀ l : List Lab, lookI l.reverse n = 0 ∨ ∃ x ∈ l.reverse, lookI l.reverse n = x.2 := by
    intro l
    induction l with
    | nil => exact Or.inl rfl
    | cons x l ih =>
      rw [List.reverse_cons, lookI_snoc]
      unfold setI
      by_cases h : n = x.1
      · rw [if_pos h]; exact Or.inr ⟨x, by simp, rfl⟩
      · rw [if_neg h]
        rcases ih with h | ⟨y, hy, h⟩
        · exact Or.inl h
        · exact Or.inr ⟨y, by simp at hy ⊢; exact Or.inl hy, h⟩
  have := key labs.reverse
  rwa [List.reverse_reverse] at this

theorem glue_length (text s : Bytes) : (glue text s).length ≤ text.length + s.length + 1 := by
  unfold glue
  split <;> simp <;> omega
theorem addS_length (f : Bytes → Int) (hf : ∀ k, 0 ≤ f k) (t : Tok) (h : t.1.length ≤ 100000) : (addS f t).length ≤ 100000 := by
  unfold addS
  split
  · rw [sixA_length _ (hf _)]; decide
  · exact h

theorem defN_length {s m : Bytes} (h : defN s = some m) : m.length ≤ s.length := by
  unfold defN at h
  split at h
  · simp at h; rw [← h, List.length_dropLast]; omega
  · cases h

/-- where the labels are, and how many -/
theorem buildA_labs (f : Bytes → Int) (hf : ∀ k, 0 ≤ f k) (origin : Int) : ∀ (l : List Tok) (text : Bytes) (labs : List Lab), Fits2 l →
    (buildA f origin text labs l).2.length ≤ labs.length + l.length ∧ ∀ x ∈ (buildA f origin text labs l).2, x ∈ labs ∨ (x.1.length ≤ 100000 ∧ origin ≤ x.2 ∧ x.2 ≤ origin + text.length + l.length * 100010) := by
  intro l
  induction l with
  | nil => intro text labs _; exact ⟨by simp [buildA], fun x hx => Or.inl hx⟩
  | cons t r ih =>
    intro text labs hfit
    have ht := hfit t (by simp)
    have hr : Fits2 r := fun u hu => hfit u (by simp [hu])
    unfold buildA
    cases hd : defN t.1 with
    | some m =>
      simp only []
      obtain ⟨h1, h2⟩ := ih text (labs ++ [(m, origin + text.length)]) hr
      refine ⟨by simp at h1 ⊢; omega, fun x hx => ?_⟩
      rcases h2 x hx with h | ⟨h3, h4, h5⟩
      · rcases List.mem_append.1 h with h | h
        · exact Or.inl h
        · obtain rfl : x = (m, origin + text.length) := by simpa using h
          have := defN_length hd
          exact Or.inr ⟨by simp only; omega, by simp only; omega, by simp only; omega⟩
      · exact Or.inr ⟨h3, h4, by simp; omega⟩
    | none =>
      simp only []
      obtain ⟨h1, h2⟩ := ih (glue text (addS f t)) labs hr
      refine ⟨by simp at h1 ⊢; omega, fun x hx => ?_⟩
      rcases h2 x hx with h | ⟨h3, h4, h5⟩
      · exact Or.inl h
      · have g1 := glue_length text (addS f t)
        have g2 := addS_length f hf t ht.1
        exact Or.inr ⟨h3, h4, by simp; omega⟩

/-- the answer of Assemble: the text, the labels, the line, the error -/
def asmA (src : Bytes) (origin : Int) : Bytes × List Lab × Int × Int :=
  if origin < 0 ∨ 262144 ≤ origin then ([], [], 0, 2)
  else if (chkA (toks src)).2 ≠ 0 then ([], [], (chkA (toks src)).1, (chkA (toks src)).2)
  else if 40000 < (buildA (lookI (buildA (fun _ => 0) origin [] [] (toks src)).2) origin [] [] (toks src)).1.length then ([], [], 0, 6)
  else ((buildA (lookI (buildA (fun _ => 0) origin [] [] (toks src)).2) origin [] [] (toks src)).1, (buildA (lookI (buildA (fun _ => 0) origin [] [] (toks src)).2) origin [] [] (toks src)).2, 0, 0)

set_option maxHeartbeats 4000000 in
set_option maxRecDepth 100000 in
theorem assemble_any (src : ByteArray) (origin : Int) (w : World) (hs : src.size ≤ 100000) (hE : Env w) :
    Calls Tryd.prog 12 #[.string src, .int .i64 origin] w fun e w' => ∃ A cap, e = .returned (.tuple #[.string (BA (asmA src.data.toList origin).1), .slice A (asmA src.data.toList origin).2.1.length cap, .int .i64 (asmA src.data.toList origin).2.2.1, .int .i64 (asmA src.data.toList origin).2.2.2]) ∧
      HLst w' A (asmA src.data.toList origin).2.1.length cap ((asmA src.data.toList origin).2.1.map labH) ∧ Ext w w' := by
  by_cases h1 : origin < 0 ∨ 262144 ≤ origin
  · have ha : asmA src.data.toList origin = ([], [], 0, 2) := by unfold asmA; rw [if_pos h1]
    rw [ha]
    clear ha
    by_cases h2 : origin < 0
    · go_enter Tryd.func12, Tryd.ntmps12
      go_wp2_with fail
      refine bodyPost_ret (v := .tuple #[.string (BA []), .slice none 0 0, .int .i64 0, .int .i64 2]) (by simp [results, Tryd.results12, go_sem]; rfl) rfl ⟨none, 0, rfl, HLst.nil w, Ext.refl _⟩
    · have h3 : 262144 ≤ origin := by omega
      clear h1
      go_enter Tryd.func12, Tryd.ntmps12
      go_wp2_with fail
      refine bodyPost_ret (v := .tuple #[.string (BA []), .slice none 0 0, .int .i64 0, .int .i64 2]) (by simp [results, Tryd.results12, go_sem]; rfl) rfl ⟨none, 0, rfl, HLst.nil w, Ext.refl _⟩
  · have g1 : 0 ≤ origin := by omega
    have g2 : origin < 262144 := by omega
    have hsl : src.data.toList.length = src.size := rfl
    have htl := toks_length src.data.toList
    have htm := toks_mem src.data.toList
    rw [hsl] at htl
    have htk := tokens_any src w (by omega) hE
    have hasm : asmA src.data.toList origin = (if (chkA (toks src.data.toList)).2 ≠ 0 then ([], [], (chkA (toks src.data.toList)).1, (chkA (toks src.data.toList)).2)
        else if 40000 < (buildA (lookI (buildA (fun _ => 0) origin [] [] (toks src.data.toList)).2) origin [] [] (toks src.data.toList)).1.length then ([], [], 0, 6)
        else ((buildA (lookI (buildA (fun _ => 0) origin [] [] (toks src.data.toList)).2) origin [] [] (toks src.data.toList)).1, (buildA (lookI (buildA (fun _ => 0) origin [] [] (toks src.data.toList)).2) origin [] [] (toks src.data.toList)).2, 0, 0)) := by
      conv => lhs; unfold asmA
      rw [if_neg h1]
    generalize asmA src.data.toList origin = R at *
    have hlines : ∀ t ∈ toks src.data.toList, t.2 ≤ 1000000000 := by
      have key : ∀ (r : Bytes) (n : Nat) (cur : Bytes) (com : Bool), ∀ t ∈ scan r n cur com, t.2 ≤ n + r.length := by
        intro r
        induction r with
        | nil =>
          intro n cur com t ht
          unfold scan at ht
          split at ht
          · cases ht
          · obtain rfl : t = (cur, n) := by simpa using ht
            exact Nat.le_refl _
        | cons c r ih =>
          intro n cur com t ht
          have one : ∀ m : Nat, t ∈ (if cur = [] then [] else [(cur, n)]) → t.2 ≤ n + (c :: r).length := by
            intro m hm
            split at hm
            · cases hm
            · obtain rfl : t = (cur, n) := by simpa using hm
              simp
          by_cases h10 : c = 10
          · subst h10
            rw [scan_nl, List.mem_append] at ht
            rcases ht with h | h
            · exact one n h
            · have := ih _ _ _ t h; simp; omega
          · cases com with
            | true => rw [scan_com _ _ _ _ h10] at ht; have := ih _ _ _ t ht; simp; omega
            | false =>
              by_cases h35 : c = 35
              · subst h35
                rw [scan_hash, List.mem_append] at ht
                rcases ht with h | h
                · exact one n h
                · have := ih _ _ _ t h; simp; omega
              · by_cases h32 : c = 32
                · subst h32
                  rw [scan_sp, List.mem_append] at ht
                  rcases ht with h | h
                  · exact one n h
                  · have := ih _ _ _ t h; simp; omega
                · rw [scan_other _ _ _ _ h10 h35 h32] at ht
                  have := ih _ _ _ t ht; simp; omega
      intro t ht
      rw [← scan_toks] at ht
      have := key _ _ _ _ t ht
      omega
    generalize toks src.data.toList = ts at *
    have hfit : Fits ts := fun t ht => ⟨by have := (htm t ht).2.1; omega, hlines t ht⟩
    have hfit2 : Fits2 ts := fun t ht => ⟨by have := (htm t ht).2.1; omega, (htm t ht).1⟩
    have hbl := buildA_labs (fun _ => 0) (fun _ => Int.le_refl _) origin ts [] [] hfit2
    have hj1 := fun A n cap kv W h1 h2 h3 h4 => joined_any A n cap ts origin kv (fun _ => 0) W h1 hfit2 h2 g1 (by omega) h3 h4 (fun _ => ⟨Int.le_refl _, by decide⟩)
    generalize hL1 : (buildA (fun _ => 0) origin [] [] ts).2 = labs1 at *
    have hlk : ∀ k, 0 ≤ lookI labs1 k ∧ lookI labs1 k ≤ 1099511627776 := by
      intro k
      rcases lookI_mem labs1 k with h | ⟨x, hx, h⟩
      · rw [h]; exact ⟨Int.le_refl _, by decide⟩
      · rcases hbl.2 x hx with h' | ⟨_, h4, h5⟩
        · cases h'
        · rw [h]; simp at h5; omega
    have hj2 := fun A n cap kv W h1 h2 h3 h4 => joined_any A n cap ts origin kv (lookI labs1) W h1 hfit2 h2 g1 (by omega) h3 h4 hlk
    have hch := fun A n cap W h1 h2 => check_any A n cap ts W h1 hfit h2
    generalize hR2 : buildA (lookI labs1) origin [] [] ts = R2 at *
    generalize chkA ts = C at *
    obtain ⟨c1, c2⟩ := C
    simp only at hasm hch
    have T1 := Lib.hid htk
    have T2 := Lib.hid hch
    have T3 := Lib.hid hj1
    have T4 := Lib.hid hj2
    have HA := Lib.hid hasm
    have HB := Lib.hid hbl
    clear htk hch hj1 hj2 hasm hbl htm hlines hfit hfit2 hL1 hR2 hlk hsl
    have hmm := @run_makeMap Tryd.prog
    go_enter Tryd.func12, Tryd.ntmps12
    go_wp2_with fail
    refine T1.out.mono ?_
    rintro e w1 ⟨v, rfl, hown, hx1⟩
    obtain ⟨A, cap, rfl, hl1⟩ : ∃ A cap, v = .slice A ts.length cap ∧ HLst w1 A ts.length cap (ts.map tokH) := by
      have := HLst.of_own (l := ts.map tokH) (by rw [List.length_map]; exact hown)
      rwa [List.length_map] at this
    clear hown
    go_wp2_with fail
    refine (T2.out A ts.length cap w1 hl1 (by omega)).mono ?_
    rintro e w2 ⟨rfl, hx2⟩
    by_cases hc2 : c2 = 0
    · subst hc2
      have hR1 : Hid (R = if 40000 < R2.1.length then ([], [], 0, 6) else (R2.1, R2.2, 0, 0)) := by show _ = _; rw [HA.out, if_neg (by simp)]
      have hE2 := (hE.ext hx1).ext hx2
      have hl2 := hl1.ext hx2
      have hx02 := hx1.trans hx2
      clear HA
      go_wp2_with fail
      refine (T3.out A ts.length cap (.map none) w2 hl2 (by omega) hE2 (fun W _ s hs => look_none W s hs)).mono ?_
      rintro e w3 ⟨v3, rfl, hown3, hx3⟩
      obtain ⟨A3, cap3, rfl, hl3⟩ : ∃ A cap, v3 = .slice A labs1.length cap ∧ HLst w3 A labs1.length cap (labs1.map labH) := by
        have := HLst.of_own (l := labs1.map labH) (by rw [List.length_map]; exact hown3)
        rwa [List.length_map] at this
      have hn1 : labs1.length ≤ 100000 := by have := HB.out.1; simp at this; omega
      have hm0 := Lib.hid (IMap.fresh w3)
      have hcap3 := hl3.room
      have hmax3 := hl3.max
      unfold maxLen at hmax3
      have HL3 := Lib.hid hl3
      clear hown3 hl3
      go_wp2_with fail
      go_loopw [15, 43] (fun p i wr => ∃ k : Nat, k ≤ labs1.length ∧ i = .int .i64 k ∧ IMap wr w3.heap.size k (lookI (labs1.take k)) ∧ Ext w3 wr) (fun _ i _ => labs1.length - (intOf i).toNat)
      case atStart => exact ⟨0, Nat.zero_le _, rfl, hm0.out, (Ext.refl w3).alloc _⟩
      case round =>
        obtain ⟨k, hk, rfl, hm, hx4⟩ := hrel
        have HM := Lib.hid hm
        clear hm
        by_cases hlt : k < labs1.length
        · obtain ⟨b, off, rfl, hc⟩ := HL3.out.at_ (by omega)
          have hcc1 := hx4.cell (hc k (by rw [List.length_map]; exact hlt)).1
          have hcc2 := hx4.cell (hc k (by rw [List.length_map]; exact hlt)).2
          rw [List.getElem_map] at hcc1 hcc2
          have htake : Hid (lookI (labs1.take (k + 1)) = setI (lookI (labs1.take k)) labs1[k].1 labs1[k].2) := by
            show _ = _
            rw [List.take_succ_eq_append_getElem hlt, lookI_snoc]
          have hmem := HB.out.2 labs1[k] (List.getElem_mem hlt)
          generalize labs1[k] = x at *
          unfold labH at hcc1 hcc2
          simp only at hcc1 hcc2
          have hxs : x.1.length ≤ 100000 ∧ 0 ≤ x.2 ∧ x.2 ≤ 1099511627776 := by
            rcases hmem with h | ⟨h3, h4, h5⟩
            · cases h
            · exact ⟨h3, by omega, by simp at h5; omega⟩
          have hms : (BA x.1).size ≤ maxLen := by rw [BA_size]; unfold maxLen; omega
          have hwf : (Lit.int .i64 x.2).wf = true := WalkArith.wf_i64 (by omega)
          have HMD := Lib.hid (BA_data x.1)
          have HC := Lib.hid hc
          clear hc hmem
          generalize BA x.1 = s at *
          obtain ⟨x1, x2⟩ := x
          simp only at hcc1 hcc2 hxs hwf htake HMD
          have HM2 := Lib.hid (HM.out.ext ((Ext.refl wr).alloc (.cells #[.string s, .int .i64 x2] 30)))
          have hx5 := hx4.alloc (.cells #[.string s, .int .i64 x2] 30)
          go_wp2_with (at_mapUpdate; refine wpList_iset rfl _ _ _ rfl w3.heap.size k _ rfl HM2.out (by unfold maxLen; omega) s hms x2 hwf rfl rfl ?_)
          intro w5 hm5 hg5
          have hx6 := hx5.grown hg5 (fun k hk => by cases hk; exact Nat.le_refl _)
          have HM5 := Lib.hid hm5
          have HG := Lib.hid hg5
          clear hm5 hg5
          go_wp2_with fail
          go_roundw
          case rel =>
            refine ⟨k + 1, by omega, by go_num, ?_, hx6⟩
            rw [htake.out]
            have := HM5.out
            rw [HMD.out] at this
            exact this
          case measure => simp [intOf]; omega
        · obtain rfl : k = labs1.length := by omega
          rw [List.take_length] at HM
          have hx34 := hx3.trans hx4
          have hE4 := hE2.ext hx34
          have hl4 := hl2.ext hx34
          go_wp2_with fail
          refine (T4.out A ts.length cap (.map (some w3.heap.size)) wr hl4 (by omega) hE4 (fun W hW s hs => (HM.out.ext hW).look s hs)).mono ?_
          rintro e w6 ⟨v6, rfl, hown6, hx6⟩
          obtain ⟨A6, cap6, rfl, hl6⟩ : ∃ A cap, v6 = .slice A R2.2.length cap ∧ HLst w6 A R2.2.length cap (R2.2.map labH) := by
            have := HLst.of_own (l := R2.2.map labH) (by rw [List.length_map]; exact hown6)
            rwa [List.length_map] at this
          have hsz6 := BA_size R2.1
          by_cases hlim : 40000 < ((BA R2.1).size : Int)
          · have hR : Hid (R = ([], [], 0, 6)) := by show _ = _; rw [hR1.out, if_pos (by omega)]
            clear hown6 hsz6
            go_wp2_with fail
            refine bodyPost_ret (v := .tuple #[.string (BA []), .slice none 0 0, .int .i64 0, .int .i64 6]) (by simp [results, Tryd.results12, go_sem]; rfl) rfl ⟨none, 0, by rw [hR.out]; rfl, by rw [hR.out]; exact HLst.nil w6, (hx02.trans hx34).trans hx6⟩
          · have hR : Hid (R = (R2.1, R2.2, 0, 0)) := by show _ = _; rw [hR1.out, if_neg (by omega)]
            clear hown6 hsz6
            go_wp2_with fail
            refine bodyPost_ret (v := .tuple #[.string (BA R2.1), .slice A6 R2.2.length cap6, .int .i64 0, .int .i64 0]) (by simp [results, Tryd.results12, go_sem]) rfl ⟨A6, cap6, by rw [hR.out], by rw [hR.out]; exact hl6, (hx02.trans hx34).trans hx6⟩
    · have hc2' : (c2 != 0) = true := bne_iff_ne.2 hc2
      have hR : Hid (R = ([], [], c1, c2)) := by show _ = _; rw [HA.out, if_pos hc2]
      clear hc2
      go_wp2_with fail
      refine bodyPost_ret (v := .tuple #[.string (BA []), .slice none 0 0, .int .i64 c1, .int .i64 c2]) (by simp [results, Tryd.results12, go_sem]; rfl) rfl ⟨none, 0, by rw [hR.out]; rfl, by rw [hR.out]; exact HLst.nil w2, hx1.trans hx2⟩
end Go.Proofs.YtimegcnpembhkaaDoor
