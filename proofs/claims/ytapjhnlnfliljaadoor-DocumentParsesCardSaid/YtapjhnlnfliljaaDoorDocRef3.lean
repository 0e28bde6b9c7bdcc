/- The reference's row and picture. (Layer 49) -/
import Derived.Test.YtapjhnlnfliljaaDoorDocRef2
import Derived.Test.YtapjhnlnfliljaaDoorDocCls
namespace Go.Proofs.YtapjhnlnfliljaaDoor
open Go.RowKit
open Go.Lib hiding intOf
open Dec
set_option linter.unusedVariables false
set_option linter.unusedSimpArgs false

theorem row_step (l : Bytes) (R out : List Bytes) (f k : Nat) (hf : f ≤ k) (hk : k < l.length) (hl : l.getLast? = some 124) (h : R = out ++ (cutAt 124 (cutB l f k) ((l.drop k).dropLast)).map trimA) :
    (l[k] = 124 → (k + 1 < l.length → R = out ++ [trimA (cutB l f k)] ++ (cutAt 124 (cutB l (k + 1) (k + 1)) ((l.drop (k + 1)).dropLast)).map trimA) ∧ (k + 1 = l.length → R = out ++ [trimA (cutB l f k)])) ∧
    (l[k] ≠ 124 → k + 1 < l.length ∧ R = out ++ (cutAt 124 (cutB l f (k + 1)) ((l.drop (k + 1)).dropLast)).map trimA) := by
  have hlast : k + 1 = l.length → l[k] = 124 := by
    intro e
    rw [List.getLast?_eq_getElem?, ← e, Nat.add_sub_cancel, List.getElem?_eq_getElem hk] at hl
    exact Option.some.inj hl
  have hcons : k + 1 < l.length → (l.drop k).dropLast = l[k] :: (l.drop (k + 1)).dropLast := by
    intro h1
    rw [List.drop_eq_getElem_cons hk, List.dropLast_cons_of_ne_nil]
    intro e
    have := congrArg List.length e
    rw [List.length_drop, List.length_nil] at this
    omega
  have hone : k + 1 = l.length → (l.drop k).dropLast = [] := by
    intro h1
    rw [List.drop_eq_getElem_cons hk, List.drop_of_length_le (by omega)]
    rfl
  refine ⟨fun h124 => ⟨fun h1 => ?_, fun h1 => ?_⟩, fun hne => ⟨?_, ?_⟩⟩
  · rw [h, hcons h1, cutAt, if_pos h124, List.map_cons, cutB_self, List.append_assoc, List.singleton_append]
  · rw [h, hone h1, cutAt, List.map_cons, List.map_nil]
  · rcases Nat.lt_or_ge (k + 1) l.length with h1 | h1
    · exact h1
    · exact absurd (hlast (by omega)) hne
  · rcases Nat.lt_or_ge (k + 1) l.length with h1 | h1
    · rw [h, hcons h1, cutAt, if_neg hne, cutB_snoc l f k hf hk]
    · exact absurd (hlast (by omega)) hne

theorem six {w : World} {b : Nat} {T : TypeId} {x0 x1 x2 x3 x4 x5 : Value} (h : Blk w b T [x0, x1, x2, x3, x4, x5]) :
    (w.cell? ⟨b, 0, none⟩ = some x0 ∧ w.cell? ⟨b, 1, none⟩ = some x1 ∧ w.cell? ⟨b, 2, none⟩ = some x2 ∧ w.cell? ⟨b, 3, none⟩ = some x3 ∧ w.cell? ⟨b, 4, none⟩ = some x4 ∧ w.cell? ⟨b, 5, none⟩ = some x5) ∧ (∀ i, w.frozen? ⟨b, i, none⟩ = false) ∧ b < w.heap.size :=
  ⟨⟨h.cell rfl, h.cell rfl, h.cell rfl, h.cell rfl, h.cell rfl, h.cell rfl⟩, fun i => blk_free h i, h.lt⟩
theorem keep6 (b : Nat) (w : World) (v0 v1 v2 v3 v4 v5 : Value) : Keep b w ((((((w.setCell ⟨b, 0, none⟩ v0).setCell ⟨b, 1, none⟩ v1).setCell ⟨b, 2, none⟩ v2).setCell ⟨b, 3, none⟩ v3).setCell ⟨b, 4, none⟩ v4).setCell ⟨b, 5, none⟩ v5) :=
  (keep5 b w v0 v1 v2 v3 v4).trans (Keep.set 5 v5)
theorem ext6 {w0 w : World} {b : Nat} (h : Ext w0 w) (hb : w0.heap.size ≤ b) (v0 v1 v2 v3 v4 v5 : Value) : Ext w0 ((((((w.setCell ⟨b, 0, none⟩ v0).setCell ⟨b, 1, none⟩ v1).setCell ⟨b, 2, none⟩ v2).setCell ⟨b, 3, none⟩ v3).setCell ⟨b, 4, none⟩ v4).setCell ⟨b, 5, none⟩ v5) :=
  (ext5 h hb v0 v1 v2 v3 v4).set hb _
theorem size6 (b : Nat) (w : World) (v0 v1 v2 v3 v4 v5 : Value) : ((((((w.setCell ⟨b, 0, none⟩ v0).setCell ⟨b, 1, none⟩ v1).setCell ⟨b, 2, none⟩ v2).setCell ⟨b, 3, none⟩ v3).setCell ⟨b, 4, none⟩ v4).setCell ⟨b, 5, none⟩ v5).heap.size = w.heap.size := by simp [World.setCell]
/-- what a line of the reference holds -/
structure RLine (w : World) (m : Nat) (b : DB) (vw vr : Value) : Prop where
  one : b.kind = 1 → SL w w.heap.size vw b.words
  two : b.kind = 2 → w.ownsRow m 9 1 vw b.words.length (strsV b.words)
  three : b.kind = 3 → ∃ u r, b.rows = [r] ∧ w.ownsRow m 30 1 vr 1 [u] ∧ SL w w.heap.size u r
  nilw : b.kind ≠ 1 → b.kind ≠ 2 → vw = .slice none 0 0
  nilr : b.kind ≠ 3 → vr = .slice none 0 0
theorem RLine.zero (w : World) (m : Nat) (b : DB) (h1 : b.kind ≠ 1) (h2 : b.kind ≠ 2) (h3 : b.kind ≠ 3) : RLine w m b (.slice none 0 0) (.slice none 0 0) :=
  ⟨fun h => absurd h h1, fun h => absurd h h2, fun h => absurd h h3, fun _ _ => rfl, fun _ => rfl⟩
theorem RLine.keep {w w' : World} {m g : Nat} {b : DB} {vw vr : Value} (h : RLine w m b vw vr) (hk : Keep g w w') (hg : OffS w g) : RLine w' m b vw vr :=
  ⟨fun e => ((h.one e).keep hk (.inr hg.1)).mono hk.size, fun e => own_keep (h.two e) hk (own_type (h.two e) hg.1), fun e => let ⟨u, r, h1, h2, h3⟩ := h.three e; ⟨u, r, h1, own_keep h2 hk (own_type h2 hg.2), (h3.keep hk (.inr hg.1)).mono hk.size⟩, h.nilw, h.nilr⟩
theorem RLine.ext {w w' : World} {m : Nat} {b : DB} {vw vr : Value} (h : RLine w m b vw vr) (hx : Ext w w') : RLine w' m b vw vr :=
  ⟨fun e => ((h.one e).ext hx).mono hx.size, fun e => own_ext (h.two e) hx, fun e => let ⟨u, r, h1, h2, h3⟩ := h.three e; ⟨u, r, h1, own_ext h2 hx, (h3.ext hx).mono hx.size⟩, h.nilw, h.nilr⟩
theorem RLine.base {w : World} {m m' : Nat} {b : DB} {vw vr : Value} (h : RLine w m b vw vr) (hm : m' ≤ m) : RLine w m' b vw vr :=
  ⟨h.one, fun e => own_base (h.two e) hm, fun e => let ⟨u, r, h1, h2, h3⟩ := h.three e; ⟨u, r, h1, own_base h2 hm, h3⟩, h.nilw, h.nilr⟩
/-- what row, picture and parse answer -/
def RPost (w : World) (R : DB × Nat) (e : Ending) (w' : World) : Prop :=
  ∃ (k : Nat) (vw vr : Value) (r : ByteArray) (wd : Nat), e = .returned (.agg #[.int .i64 (k : Int), vw, vr, .string r, .int .i64 (wd : Int), .int .i64 (R.2 : Nat)]) ∧ Ext w w' ∧ (∃ A n c, vw = .slice A n c) ∧ (∃ A n c, vr = .slice A n c) ∧ (R.2 = 0 → k = R.1.kind ∧ r = BA R.1.runs ∧ wd = R.1.width ∧ RLine w' w.heap.size R.1 vw vr)
theorem RPost.err {w w' : World} {R : DB × Nat} {n : Nat} (hR : R = (noB, n)) (hn : n ≠ 0) (hx : Ext w w') : RPost w R (.returned (.agg #[.int .i64 0, .slice none 0 0, .slice none 0 0, .string ⟨#[]⟩, .int .i64 0, .int .i64 (n : Int)])) w' :=
  ⟨0, _, _, _, 0, by rw [hR]; rfl, hx, ⟨_, _, _, rfl⟩, ⟨_, _, _, rfl⟩, fun h => by rw [hR] at h; exact absurd h hn⟩
theorem line_off {w : World} {b : Nat} {xs : List Value} (h : Blk w b 48 xs) : OffS w b := (Off.blk h (by decide) (by decide) (by decide)).s
set_option maxRecDepth 100000 in
set_option maxHeartbeats 3200000 in
theorem rrow_any (s : ByteArray) (w : World) (hs : s.size ≤ 100000) :
    Calls Tryd.prog 40 #[.string s] w (RPost w (rowA s.data.toList)) := by
  have hsl : s.data.toList.length = s.size := by simp
  obtain ⟨w0, hw0⟩ : ∃ W, W = w.alloc (.cells #[.int .i64 0, .slice none 0 0, .slice none 0 0, .string ⟨#[]⟩, .int .i64 0, .int .i64 0] 48) := ⟨_, rfl⟩
  have hx0 : Ext w w0 := by rw [hw0]; exact (Ext.refl w).alloc _
  have hs0 : w0.heap.size = w.heap.size + 1 := by rw [hw0]; simp
  have hb0 : Blk w0 w.heap.size 48 [.int .i64 0, .slice none 0 0, .slice none 0 0, .string ⟨#[]⟩, .int .i64 0, .int .i64 0] := by rw [hw0]; exact heap_alloc_new w _
  have HB0 := Lib.hid hb0
  obtain ⟨⟨p0, p1, p2, p3, p4, p5⟩, hfz, hlt⟩ := six hb0
  have y0 := hfz 0
  have y1 := hfz 1
  have y2 := hfz 2
  have y3 := hfz 3
  have y4 := hfz 4
  have y5 := hfz 5
  clear hb0 hfz
  obtain ⟨i0, hi, hz0, hz1, hz2⟩ := info_parts strInfo
  obtain ⟨R, hR⟩ : ∃ R, R = rowA s.data.toList := ⟨_, rfl⟩
  rw [← hR]
  have HR := Lib.hid hR
  clear hR
  have HX0 := Lib.hid hx0
  clear hx0
  by_cases h2 : s.size < 2
  · have hr : R = (noB, 3) := by rw [HR.out]; unfold rowA; rw [if_pos (.inl (by omega))]
    have HE := Lib.hid (RPost.err hr (by decide) ((Ext.refl w).alloc (.cells #[.int .i64 0, .slice none 0 0, .slice none 0 0, .string ⟨#[]⟩, .int .i64 0, .int .i64 ((3 : Nat) : Int)] 48)))
    have hdt : decide ((s.size : Int) < 2) = true := decide_eq_true (by omega)
    rw [hw0] at p0 p1 p2 p3 p4 p5 y0 y1 y2 y3 y4 y5
    clear hr hsl HR HX0 HB0 hw0 hs0 hlt
    go_enter Tryd.func40, Tryd.ntmps40
    go_wp2_with fail
    refine bodyPost_ret (v := .agg #[.int .i64 0, .slice none 0 0, .slice none 0 0, .string ⟨#[]⟩, .int .i64 0, .int .i64 3]) (by simp [results, Tryd.results40, go_sem, p0, p1, p2, p3, p4, p5]) rfl ?_
    exact HE.out
  · have hdt : decide ((s.size : Int) < 2) = false := decide_eq_false (by omega)
    have hgl := getLast_at s (by omega)
    have hidx : ((s.size : Int) - 1).toNat = s.size - 1 := by omega
    have hib : s.size - 1 < s.size := by omega
    cases hq : ((s[s.size - 1].toNat : Int) != 124) with
    | true =>
      have hr : R = (noB, 3) := by
        rw [HR.out]
        unfold rowA
        refine if_pos (.inr ?_)
        rw [hgl]
        intro e
        have e := Option.some.inj e
        rw [e] at hq
        exact absurd hq (by decide)
      have HE := Lib.hid (RPost.err hr (by decide) ((Ext.refl w).alloc (.cells #[.int .i64 0, .slice none 0 0, .slice none 0 0, .string ⟨#[]⟩, .int .i64 0, .int .i64 ((3 : Nat) : Int)] 48)))
      rw [hw0] at p0 p1 p2 p3 p4 p5 y0 y1 y2 y3 y4 y5
      clear hr hgl hsl HR HX0 HB0 hw0 hs0 hlt
      go_enter Tryd.func40, Tryd.ntmps40
      go_wp2_with fail
      refine bodyPost_ret (v := .agg #[.int .i64 0, .slice none 0 0, .slice none 0 0, .string ⟨#[]⟩, .int .i64 0, .int .i64 3]) (by simp [results, Tryd.results40, go_sem, p0, p1, p2, p3, p4, p5]) rfl ?_
      exact HE.out
    | false =>
      have hgl2 : s.data.toList.getLast? = some 124 := by
        rw [hgl]
        congr 1
        have h3 : ((s[s.size - 1].toNat : Nat) : Int) = 124 := by simpa using hq
        have : s[s.size - 1].toNat = 124 := by omega
        exact UInt8.toNat_inj.1 this
      obtain ⟨C, hC⟩ : ∃ C, C = cellsA s.data.toList := ⟨_, rfl⟩
      have hr : R = if 32 < C.length then (noB, 6) else (⟨3, [], [C], [], 0⟩, 0) := by
        rw [HR.out, hC]
        unfold rowA
        rw [if_neg]
        intro h
        rcases h with h | h
        · omega
        · exact h hgl2
      have hC0 : C = [] ++ (cutAt 124 (cutB s.data.toList 1 1) ((s.data.toList.drop 1).dropLast)).map trimA := by rw [hC, cutB_self]; rfl
      have HC0 := Lib.hid hC0
      have HR2 := Lib.hid hr
      have HGL := Lib.hid hgl2
      have HSL := Lib.hid hsl
      have HW0 := Lib.hid hw0
      obtain ⟨b, hb⟩ : ∃ b, b = w.heap.size := ⟨_, rfl⟩
      have hbs : b + 1 = w0.heap.size := by rw [hb, hs0]
      have hown0 : (w0.alloc (.cells #[] 9)).ownsRow w0.heap.size 9 1 (.slice (some ⟨b + 1, 0, none⟩) 0 0) 0 (strsV []) := ⟨rfl, .inr ⟨b + 1, 0, #[], rfl, by omega, by rw [hbs]; exact heap_alloc_new w0 _, Nat.le_refl _, Nat.zero_le _, rfl, rfl⟩⟩
      have HO0 := Lib.hid hown0
      rw [← hb] at HB0
      have hbw : w.heap.size ≤ b := Nat.le_of_eq hb.symm
      clear hC hr hC0 hgl hgl2 hsl HR hs0 hown0 hbs p0 p1 p2 p3 p4 p5 y0 y1 y2 y3 y4 y5 hlt
      go_enter Tryd.func40, Tryd.ntmps40
      go_wp2_with fail
      rw [← hw0, ← hb]
      clear hw0 hb hq
      go_loopw [3, 4, 5] (fun o f i wr => ∃ (k f' : Nat) (out : List Bytes), 1 ≤ k ∧ k ≤ s.size ∧ f' ≤ k ∧ i = .int .i64 k ∧ f = .int .i64 f' ∧ (k < s.size → C = out ++ (cutAt 124 (cutB s.data.toList f' k) ((s.data.toList.drop k).dropLast)).map trimA) ∧ (k = s.size → C = out) ∧ out.length ≤ k ∧ wr.ownsRow w0.heap.size 9 1 o out.length (strsV out) ∧ Ext w0 wr) (fun _ _ i _ => s.size - (intOf i).toNat)
      case atStart => exact ⟨1, 1, [], Nat.le_refl _, by omega, Nat.le_refl _, rfl, rfl, fun _ => HC0.out, fun h => absurd h (by omega), Nat.zero_le _, HO0.out, (Ext.refl w0).alloc _⟩
      case round =>
        obtain ⟨k, f, out, hk1, hk, hfk, rfl, rfl, hgo, hfin, hol, hown, hx⟩ := hrel
        by_cases hks : k < s.size
        · have hgo := hgo hks
          have hkl : k < s.data.toList.length := by rw [HSL.out]; exact hks
          have hst := row_step s.data.toList C out f k hfk hkl HGL.out hgo
          rw [HSL.out] at hst
          have hge : s.data.toList[k] = s[k] := rfl
          rw [hge] at hst
          by_cases h10 : s[k] = 124
          · have h2 : (((s[k].toNat : Nat) : Int) == 124) = true := by rw [h10]; rfl
            have hn := hst.1 h10
            have hT : Hid (∀ W, Calls Tryd.prog 57 #[.string (s.extract f k)] W fun e w' => e = .returned (.string (BA (trimA (cutB s.data.toList f k)))) ∧ W = w') := by
              intro W
              have := rtrim_any (s.extract f k) W (by rw [ByteArray.size_extract]; omega)
              rw [ext_cutB, BA_data] at this
              rw [ext_cutB]
              exact this
            generalize trimA (cutB s.data.toList f k) = P at *
            have hnx1 := Lib.hid hn.1
            have hnx2 := Lib.hid hn.2
            have hstr : Hid (strsV (out ++ [P]) = strsV out ++ [.string (BA P)]) := strsV_snoc out P
            have HO := Lib.hid hown
            have hx2 := hx
            clear hst hn hgo hge hown h10 hfin
            generalize BA P = PB at *
            go_wp2_with fail
            refine (hT.out _).mono ?_
            rintro e w2 ⟨rfl, rfl⟩
            go_wp2_with (at_builtin; refine wpList_append_own _ rfl (.tmp 29) (.tmp 35) _ rfl w0.heap.size 9 i0 _ 1 16 Tryd.underlying30 hi hz0 hz1 hz2 rfl (by omega) _ _ _ rfl (HO.out.alloc _) ⟨wr.heap.size, 0, none⟩ 1 1 [.string PB] rfl rfl ?c1 ?c2 ?c3 ?c4 ?c5 ?_)
            case c1 =>
              intro j u hu
              match j, hu with
              | 0, hu => simp at hu; subst hu; go_cell
            case c2 =>
              intro u hu
              simp at hu
              subst hu; rfl
            case c3 => unfold maxLen; omega
            case c4 => omega
            case c5 => (have hc5 := hx2.size; try simp at hc5); simp; omega
            intro v' w2 hown2 hgr _
            have hx3 := (hx2.alloc (.cells #[.string PB] 9)).grown hgr (fun k hk => (HO.out.lt k hk).1)
            have HO2 := Lib.hid hown2
            have HG := Lib.hid hgr
            clear hown2 hgr
            go_wp2_with fail
            go_roundw
            case rel => exact ⟨k + 1, k + 1, out ++ [P], by omega, by omega, Nat.le_refl _, by go_num, by go_num, hnx1.out, hnx2.out, by simp; omega, by rw [hstr.out, List.length_append]; exact HO2.out, hx3⟩
            case measure => (simp [intOf] <;> omega)
          · have h2 : (((s[k].toNat : Nat) : Int) == 124) = false := by
              rw [show (124 : Int) = ((124 : Nat) : Int) from rfl, byte_eq _ _ (by decide)]
              exact decide_eq_false h10
            obtain ⟨hn0, hn⟩ := hst.2 h10
            have HN := Lib.hid hn
            have HO := Lib.hid hown
            clear hst hn hgo hge hown h10 hfin
            go_wp2_with fail
            go_roundw
            case rel => exact ⟨k + 1, f, out, by omega, by omega, by omega, by go_num, rfl, fun _ => HN.out, fun h => absurd h (by omega), by omega, HO.out, hx⟩
            case measure => (simp [intOf] <;> omega)
        · obtain rfl : k = s.size := by omega
          have hfin := hfin rfl
          obtain ⟨A, c, rfl, hr1, hr2⟩ := own_slice hown
          have hsl2 := (SL.own hown).1
          have hx1 := HX0.out.trans hx
          have hb1 := HB0.out.ext hx
          have hoff := line_off hb1
          obtain ⟨⟨p0, p1, p2, p3, p4, p5⟩, hfz, hlt⟩ := six hb1
          have y0 := hfz 0
          have y1 := hfz 1
          have y2 := hfz 2
          have y3 := hfz 3
          have y4 := hfz 4
          have y5 := hfz 5
          have HS2 := Lib.hid hsl2
          have HOFF := Lib.hid hoff
          have HX1 := Lib.hid hx1
          have HBB := Lib.hid hb1
          have HC := Lib.hid hfin
          have hRR := HR2.out
          rw [hfin] at hRR
          obtain ⟨N, hN⟩ : ∃ N, N = out.length := ⟨_, rfl⟩
          rw [← hN] at HS2 hol hr1 hRR ⊢
          have HN := Lib.hid hN
          clear hfin hgo hown hsl2 hoff hx1 hb1 hfz hN
          by_cases h32 : 32 < N
          · rw [if_pos h32] at hRR
            have hd : decide ((32 : Int) < (N : Int)) = true := decide_eq_true (by omega)
            have HE := Lib.hid (RPost.err hRR (by decide) (ext6 HX1.out hbw (.int .i64 0) (.slice none 0 0) (.slice none 0 0) (.string ⟨#[]⟩) (.int .i64 0) (.int .i64 6)))
            clear hRR h32
            go_wp2_with fail
            refine bodyPost_ret (v := .agg #[.int .i64 0, .slice none 0 0, .slice none 0 0, .string ⟨#[]⟩, .int .i64 0, .int .i64 6]) (by simp [results, Tryd.results40, go_sem, p0, p1, p2, p3, p4, p5]) rfl ?_
            exact HE.out
          · rw [if_neg h32] at hRR
            have hd : decide ((32 : Int) < (N : Int)) = false := decide_eq_false (by omega)
            have HRR := Lib.hid hRR
            obtain ⟨w2, hw2⟩ : ∃ W, W = wr.alloc (.cells #[.slice A N c] 30) := ⟨_, rfl⟩
            have hx2 : Ext wr w2 := by rw [hw2]; exact (Ext.refl wr).alloc _
            have hb2 := HBB.out.ext hx2
            obtain ⟨⟨q0, q1, q2, q3, q4, q5⟩, hfz, hlt2⟩ := six hb2
            have z0 := hfz 0
            have z1 := hfz 1
            have z2 := hfz 2
            have z3 := hfz 3
            have z4 := hfz 4
            have z5 := hfz 5
            have hown2 : w2.ownsRow w.heap.size 30 1 (.slice (some ⟨wr.heap.size, 0, none⟩) 1 1) 1 [.slice A N c] := ⟨rfl, .inr ⟨wr.heap.size, 1, #[.slice A N c], rfl, HX1.out.size, by rw [hw2]; exact heap_alloc_new wr _, Nat.le_refl _, by decide, rfl, rfl⟩⟩
            have hline : RLine w2 w.heap.size ⟨3, [], [out], [], 0⟩ (.slice none 0 0) (.slice (some ⟨wr.heap.size, 0, none⟩) 1 1) :=
              ⟨fun h => absurd (show (3 : Nat) = 1 from h) (by decide), fun h => absurd (show (3 : Nat) = 2 from h) (by decide), fun _ => ⟨.slice A N c, out, rfl, hown2, (HS2.out.ext hx2).mono hx2.size⟩, fun _ _ => rfl, fun h => absurd rfl h⟩
            have HE : Hid (RPost w R (.returned (.agg #[.int .i64 3, .slice none 0 0, .slice (some ⟨wr.heap.size, 0, none⟩) 1 1, .string ⟨#[]⟩, .int .i64 0, .int .i64 0])) ((((((w2.setCell ⟨b, 0, none⟩ (.int .i64 3)).setCell ⟨b, 1, none⟩ (.slice none 0 0)).setCell ⟨b, 2, none⟩ (.slice (some ⟨wr.heap.size, 0, none⟩) 1 1)).setCell ⟨b, 3, none⟩ (.string ⟨#[]⟩)).setCell ⟨b, 4, none⟩ (.int .i64 0)).setCell ⟨b, 5, none⟩ (.int .i64 0))) := by
              refine ⟨3, _, _, _, 0, by rw [HRR.out]; rfl, ext6 (HX1.out.trans hx2) hbw _ _ _ _ _ _, ⟨_, _, _, rfl⟩, ⟨_, _, _, rfl⟩, fun _ => ?_⟩
              rw [HRR.out]
              exact ⟨rfl, rfl, rfl, hline.keep (keep6 _ _ _ _ _ _ _ _) (line_off hb2)⟩
            have HW2 := Lib.hid hw2
            clear hRR h32 hline hown2 hb2 hfz hx2 hw2 p0 p1 p2 p3 p4 p5 y0 y1 y2 y3 y4 y5 HS2 HOFF HX1 HBB HC
            go_wp2_with (rw [← HW2.out])
            refine bodyPost_ret (v := .agg #[.int .i64 3, .slice none 0 0, .slice (some ⟨wr.heap.size, 0, none⟩) 1 1, .string ⟨#[]⟩, .int .i64 0, .int .i64 0]) (by simp [results, Tryd.results40, go_sem, q0, q1, q2, q3, q4, q5]) rfl ?_
            exact HE.out
end Go.Proofs.YtapjhnlnfliljaaDoor
