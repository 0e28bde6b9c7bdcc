/- The law AssemblerConcatenation returns true. -/
import Derived.Test.YtimegcnpembhkaaDoorAsmAwake
import Derived.Test.YtimegcnpembhkaaDoorAsmCat
namespace Go.Proofs.YtimegcnpembhkaaDoor
open Go.RowKit
open Go.Lib hiding intOf
set_option linter.unusedVariables false

theorem HLst.take {w : World} {A : Option Addr} {n c k : Nat} {l : List Hold} (h : HLst w A n c l) (hk : k ≤ n) : HLst w A k c (l.take k) := by
  refine ⟨by rw [List.length_take]; have := h.len; omega, Nat.le_trans hk h.room, h.max, fun hp => ?_⟩
  obtain ⟨b, off, hA, hc⟩ := h.at_ (by omega)
  refine ⟨b, off, hA, fun i hi => ?_⟩
  rw [List.length_take] at hi
  have := hc i (by omega)
  simpa using this

theorem prefix_hasPrefix {s t : Bytes} (h : s <+: t) : hasPrefix t s = true := by
  unfold hasPrefix; exact List.isPrefixOf_iff_prefix.2 h

set_option maxHeartbeats 4000000 in
set_option maxRecDepth 100000 in
theorem conc_any (a b : ByteArray) (o : Int) (w : World) (ha : a.size ≤ maxLen) (hb : b.size ≤ maxLen) (hab : a.size + b.size ≤ 281474976710656) (hE : Env w) :
    Calls Tryd.prog 5 #[.string a, .string b, .int .i64 o] w fun e w' => e = .returned (.bool true) ∧ Ext w w' := by
  have HAW := Lib.hid (fun W (hW : Env W) => awake_any W hW)
  unfold maxLen at ha hb
  by_cases g : (600 : Int) < (a.size : Int) + b.size
  · go_enter Tryd.func5, Tryd.ntmps5
    go_wp2_with fail
    refine (HAW.out _ hE).mono ?_
    rintro e w1 ⟨rfl, hx⟩
    go_wp2_with fail
    go_ret
    exact ⟨rfl, hx⟩
  have hA := fun W (hW : Env W) => assemble_any a o W (by omega) hW
  have hcs : ((a ++ (⟨#[10]⟩ : ByteArray)) ++ b).size = a.size + 1 + b.size := by rw [ByteArray.size_append, ByteArray.size_append]; rfl
  have hcd : ((a ++ (⟨#[10]⟩ : ByteArray)) ++ b).data.toList = a.data.toList ++ 10 :: b.data.toList := by simp
  have hB := fun W (hW : Env W) => assemble_any ((a ++ (⟨#[10]⟩ : ByteArray)) ++ b) o W (by omega) hW
  rw [hcd] at hB
  have hcat := asm_cat a.data.toList b.data.toList o
  have hbd1 := asm_bound a.data.toList o (by have : a.data.toList.length = a.size := rfl; omega)
  have hbd2 := asm_bound (a.data.toList ++ 10 :: b.data.toList) o (by rw [← hcd]; have : ((a ++ (⟨#[10]⟩ : ByteArray)) ++ b).data.toList.length = ((a ++ (⟨#[10]⟩ : ByteArray)) ++ b).size := rfl; omega)
  generalize asmA a.data.toList o = RA at *
  generalize asmA (a.data.toList ++ 10 :: b.data.toList) o = RB at *
  obtain ⟨s, l, n, e⟩ := RA
  obtain ⟨t, m, n', f⟩ := RB
  simp only at hA hB hcat hbd1 hbd2
  have HA := Lib.hid hA
  have HB := Lib.hid hB
  have HC := Lib.hid hcat
  have l1 := hbd1.2.1
  have l2 := hbd2.2.1
  clear hA hB hcat hcs hcd hbd1 hbd2
  go_enter Tryd.func5, Tryd.ntmps5
  go_wp2_with fail
  refine (HA.out _ hE).mono ?_
  rintro e0 w1 ⟨A, cA, rfl, hlA, hx1⟩
  go_wp2_with fail
  refine (HB.out _ (hE.ext hx1)).mono ?_
  rintro e0 w2 ⟨B, cB, rfl, hlB, hx2⟩
  have hlA2 := hlA.ext hx2
  have hE2 := (hE.ext hx1).ext hx2
  have hx12 := hx1.trans hx2
  clear hlA hx1 hx2
  by_cases he : e = 0
  · subst he
    by_cases hf : f = 0
    · subst hf
      obtain ⟨p1, p2⟩ := HC.out rfl rfl
      have hlen : l.length ≤ m.length := p2.length_le
      have htake : m.take l.length = l := (List.prefix_iff_eq_take.1 p2).symm
      have hroom := hlB.room
      have hmax := hlB.max
      unfold maxLen at hmax
      have hlB2 := hlB.take hlen
      rw [← List.map_take, htake] at hlB2
      have hp := prefix_hasPrefix p1
      have hss := sameSym_any B A l.length l.length cB cA (l.map labH) (l.map labH) w2 hlB2 hlA2
      rw [decide_eq_true rfl] at hss
      have hhp := fun W => Tryd.strings_HasPrefix (BA t) (BA s) W
      rw [BA_data, BA_data, hp] at hhp
      have H1 := Lib.hid hss
      have H2 := Lib.hid hhp
      clear htake hlB2 hp hss hhp p1 p2 hlB hlA2
      go_wp2_with fail
      refine H1.out.mono ?_
      rintro e3 w3 ⟨rfl, hx3⟩
      go_wp2_with fail
      refine (H2.out _).mono ?_
      rintro e4 w4 ⟨rfl, rfl⟩
      go_wp2_with fail
      refine (HAW.out _ (hE2.ext hx3)).mono ?_
      rintro e5 w5 ⟨rfl, hx5⟩
      go_wp2_with fail
      go_ret
      exact ⟨rfl, (hx12.trans hx3).trans hx5⟩
    · have hf' : (f != 0) = true := bne_iff_ne.2 hf
      clear hf
      go_wp2_with fail
      refine (HAW.out _ hE2).mono ?_
      rintro e5 w5 ⟨rfl, hx5⟩
      go_wp2_with fail
      go_ret
      exact ⟨rfl, hx12.trans hx5⟩
  · have he' : (e != 0) = true := bne_iff_ne.2 he
    clear he
    go_wp2_with fail
    refine (HAW.out _ hE2).mono ?_
    rintro e5 w5 ⟨rfl, hx5⟩
    go_wp2_with fail
    go_ret
    exact ⟨rfl, hx12.trans hx5⟩
end Go.Proofs.YtimegcnpembhkaaDoor
