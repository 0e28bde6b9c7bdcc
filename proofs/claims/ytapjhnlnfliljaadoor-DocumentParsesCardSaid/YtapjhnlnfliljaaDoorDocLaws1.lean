/- The law DocumentLines. (Layer 49) -/
import Derived.Test.YtapjhnlnfliljaaDoorDocAlive
namespace Go.Proofs.YtapjhnlnfliljaaDoor
open Go.RowKit
open Go.Lib hiding intOf
set_option linter.unusedVariables false

theorem strsV_SL {w : World} {g : Nat} {l : List Bytes} (h : Blk w g 9 (strsV l)) (hm : l.length ≤ maxLen) (k : Nat) (hk : k ≤ l.length) : SL w w.heap.size (.slice (some ⟨g, 0, none⟩) k l.length) (l.take k) := by
  have hl : (l.take k).length = k := by rw [List.length_take]; omega
  refine ⟨some ⟨g, 0, none⟩, l.length, by rw [hl], fun e => (by cases e), ⟨by rw [strsV_len], by rw [hl]; exact hk, hm, fun hn => ⟨g, 0, rfl, fun i hi => ?_⟩⟩, fun _ => trivial, fun p hp => by cases hp; exact ⟨heap_lt h, _, _, h⟩⟩
  rw [strsV_len, hl] at hi
  have := h.cell (i := i) (strsV_get l i _ (List.getElem?_eq_getElem (by omega)))
  rw [Nat.zero_add, this]
  simp [strsV]
set_option maxRecDepth 100000 in
set_option maxHeartbeats 6400000 in
theorem lawLines_any (s t : ByteArray) (w : World) (hs : s.size ≤ maxLen) (ht : t.size ≤ maxLen) (hst : s.size + t.size < 9223372036854775808) (hE : Env w) (hS : Sy w) :
    Calls Tryd.prog 6 #[.string s, .string t] w fun e w' => e = .returned (.bool true) ∧ Ext w w' := by
  have HA := Lib.hid (fun W (h : Ext w W) => alive_any W (hE.ext h) (hS.ext h))
  have hsl : s.data.toList.length = s.size := by simp
  have htl : t.data.toList.length = t.size := by simp
  unfold maxLen at hs ht
  by_cases hbig : 2000 < s.size + t.size
  · have hd : decide ((2000 : Int) < (s.size : Int) + (t.size : Int)) = true := decide_eq_true (by omega)
    clear hbig hsl htl
    go_enter Tryd.func6, Tryd.ntmps6
    go_wp2_with fail
    refine (HA.out _ (Ext.refl w)).mono ?_
    rintro e w1 ⟨rfl, hx1⟩
    go_wp2_with fail
    go_ret
    exact ⟨rfl, hx1⟩
  · have hd : decide ((2000 : Int) < (s.size : Int) + (t.size : Int)) = false := decide_eq_false (by omega)
    have HP := Lib.hid (fun W (h : Ext w W) => parse_any s W (hE.ext h) (hS.ext h) (by unfold maxLen; omega))
    cases hp : parseA s.data.toList with
    | mk l q =>
      obtain ⟨n, e⟩ := q
      rw [hp] at HP
      by_cases he : e = 0
      · subst he
        obtain ⟨-, rfl, -, -⟩ := parseA_ok hp
        clear hp hbig hsl htl
        go_enter Tryd.func6, Tryd.ntmps6
        go_wp2_with fail
        refine (HA.out _ (Ext.refl w)).mono ?_
        rintro e w1 ⟨rfl, hx1⟩
        go_wp2_with fail
        refine (HP.out _ hx1).mono ?_
        rintro e w2 ⟨v, rfl, -, hx2⟩
        go_wp2_with fail
        go_ret
        exact ⟨rfl, hx1.trans hx2⟩
      · obtain ⟨hn1, hnl, h1, h2, h3⟩ := parseA_lines s.data.toList t.data.toList (by omega) l n e hp he
        have hee : (((e : Nat) : Int) == 0) = false := by simp; omega
        have hsp := fun W (h : Ext w W) => split_any 10 s W (by omega) (hE.ext h)
        have hcs := cutAt_sum 10 s.data.toList []
        rw [List.length_nil, Nat.zero_add] at hcs
        have hll : cutAt 10 [] s.data.toList = linesA s.data.toList := rfl
        rw [hll] at hcs hsp
        generalize linesA s.data.toList = ls at *
        have hlen : ls.length ≤ 2001 := by have := len_lenS ls; omega
        have hmem : ∀ x ∈ ls, x.length ≤ 2001 := fun x hx => by have := sum_mem ls x hx; omega
        have hjl : (joinA [10] (ls.take (n - 1))).length ≤ 2001 := by have := joinA_len [10] rfl (ls.take (n - 1)); have := sum_take ls (n - 1); omega
        have ha : (s ++ ⟨#[10]⟩ ++ t : ByteArray).data.toList = s.data.toList ++ [10] ++ t.data.toList := by simp
        have haz : (s ++ ⟨#[10]⟩ ++ t : ByteArray).size ≤ maxLen := by rw [ByteArray.size_append, ByteArray.size_append]; unfold maxLen; show s.size + 1 + t.size ≤ _; omega
        have hp1 := fun W (h : Ext w W) => parse_any (s ++ ⟨#[10]⟩ ++ t) W (hE.ext h) (hS.ext h) haz
        rw [ha, h1] at hp1
        have hp2 := fun W (h : Ext w W) => parse_any (BA (joinA [10] (ls.take (n - 1)))) W (hE.ext h) (hS.ext h) (by rw [BA_size]; unfold maxLen; omega)
        rw [BA_data] at hp2
        have hp3 := fun W (h : Ext w W) => parse_any (BA ls[n - 1]) W (hE.ext h) (hS.ext h) (by rw [BA_size]; have := hmem _ (List.getElem_mem hnl); unfold maxLen; omega)
        rw [BA_data, h3] at hp3
        rw [h2] at hp2
        have hjn := fun W m (v : Value) (h : SL W m v (ls.take (n - 1))) => joinD_any ⟨#[10]⟩ m v (ls.take (n - 1)) W h (by show (joinA [10] _).length ≤ _; omega) (by rw [List.length_take]; omega)
        rw [show (⟨#[10]⟩ : ByteArray).data.toList = [10] from rfl] at hjn
        obtain ⟨k, hk⟩ : ∃ k, k = n - 1 := ⟨_, rfl⟩
        have hnk : n = k + 1 := by omega
        subst hnk
        simp only [Nat.add_sub_cancel] at *
        obtain ⟨N, hN⟩ : ∃ N, N = ls.length := ⟨_, rfl⟩
        have hkN : k < N := by omega
        rw [← hN] at hsp hlen
        have hsl2 := fun W g (hb : Blk W g 9 (strsV ls)) => strsV_SL hb (by unfold maxLen; omega) k (by omega)
        have hkl : k < ls.length := by omega
        have hce := fun W g (hb : Blk W g 9 (strsV ls)) => hb.cell (i := k) (strsV_get ls k _ (List.getElem?_eq_getElem hkl))
        have hp3 : ∀ W (h : Ext w W), Calls Tryd.prog 10 #[.string (BA ls[k])] W fun e1 w' => ∃ v, e1 = .returned (.tuple #[v, .int .i64 ((1 : Nat) : Int), .int .i64 ((e : Nat) : Int)]) ∧ DL w' v [] ∧ Ext W w' := hp3
        rw [← hN] at hsl2
        have HSP := Lib.hid hsp
        have H1 := Lib.hid hp1
        have H2 := Lib.hid hp2
        have H3 := Lib.hid hp3
        have HJ := Lib.hid hjn
        have HSL := Lib.hid hsl2
        have HCE := Lib.hid hce
        have hs2 : s.size ≤ 2000 := by omega
        have ht2 : t.size ≤ 2000 := by omega
        have hkd1 : decide ((N : Int) < (k : Int) + 1) = false := decide_eq_false (by omega)
        have hkd2 : decide ((k : Int) + 1 < 1) = false := decide_eq_false (by omega)
        obtain ⟨x, hx⟩ : ∃ x, x = ls[k] := ⟨_, rfl⟩
        rw [← hx] at H3 HCE
        generalize joinA [10] (ls.take k) = J at *
        generalize parseA J = Q at *
        clear hp hbig hsl htl hsp hp1 hp2 hp3 hjn hsl2 hce hcs hll hmem hjl ha haz h1 h2 h3 hk hN hn1 hx
        go_enter Tryd.func6, Tryd.ntmps6
        go_wp2_with fail
        refine (HA.out _ (Ext.refl w)).mono ?_
        rintro e w1 ⟨rfl, hx1⟩
        go_wp2_with fail
        refine (HP.out _ hx1).mono ?_
        rintro e w2 ⟨v, rfl, -, hx2⟩
        have hx12 := hx1.trans hx2
        go_wp2_with fail
        refine (HSP.out _ hx12).mono ?_
        rintro e w3 ⟨rfl, hb, hx3⟩
        have hx13 := hx12.trans hx3
        obtain ⟨g0, hg0⟩ : ∃ g, g = w2.heap.size := ⟨_, rfl⟩
        rw [← hg0] at hb ⊢
        have HB : Hid (Blk w3 g0 9 (strsV ls)) := hb
        clear hb hx1 hx2 hx3 hx12 hg0
        go_wp2_with fail
        refine (H1.out _ hx13).mono ?_
        rintro e w4 ⟨v4, rfl, -, hx4⟩
        have hx14 := hx13.trans hx4
        have HB4 := Lib.hid (HB.out.ext hx4)
        have HS4 := Lib.hid (HSL.out w4 g0 HB4.out)
        go_wp2_with fail
        refine (HJ.out _ _ _ HS4.out).mono ?_
        rintro e w5 ⟨rfl, hx5⟩
        have hx15 := hx14.trans hx5
        go_wp2_with fail
        refine (H2.out _ hx15).mono ?_
        rintro e w6 ⟨v6, rfl, -, hx6⟩
        have hx16 := hx15.trans hx6
        have hc6 := HCE.out w6 g0 ((HB4.out.ext hx5).ext hx6)
        clear hx13 hx4 hx14 hx5 hx15 hx6 HB HB4 HS4
        go_wp2_with fail
        refine (H3.out _ hx16).mono ?_
        rintro e w7 ⟨v7, rfl, -, hx7⟩
        have hx17 := hx16.trans hx7
        go_wp2_with fail
        go_ret
        exact ⟨rfl, hx17⟩
end Go.Proofs.YtapjhnlnfliljaaDoor
