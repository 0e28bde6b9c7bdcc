/- awake() of layer 26 returns true; the law PlainframeSplit. -/
import Derived.Test.YtboafongjbdmoaaGreatDoorPfSame
import Derived.Test.YtboafongjbdmoaaGreatDoorPfBytes
namespace Go.Proofs.YtboafongjbdmoaaGreatDoor
open Go.RowKit
open Go.Lib hiding intOf
set_option linter.unusedVariables false

def exS : ByteArray := BA (List.replicate 65 43)
def exP : Pc := ⟨7, 0, 2, BA (List.replicate 64 43)⟩
theorem ex_split : ∃ p1, splitA exS 7 = ([exP, p1], 0) := by
  have h1 : totalN exS.size = 2 := by decide +kernel
  have h2 : prB exS.data.toList = true := by decide +kernel
  have h3 : (fullB exS).extract (0 * 64) ((0 + 1) * 64) = BA (List.replicate 64 43) := bytes_inj (by decide +kernel)
  refine ⟨pieceP exS 7 1, ?_⟩
  unfold splitA
  rw [if_neg (by decide +kernel), if_neg (by rw [h2]; decide)]
  unfold piecesP
  rw [h1]
  show ([pieceP exS 7 0, pieceP exS 7 1], (0 : Int)) = _
  have h4 : pieceP exS 7 0 = exP := by unfold pieceP exP; rw [h1, h3]; rfl
  rw [h4]
theorem ex_check : checkZ exP.index exP.total exP.text = 0 := by decide +kernel
theorem ex_enc : encodeA exP = (encL exP, 0) := by unfold encodeA; rw [if_pos ex_check]
theorem ex_head : headB exP = [48, 48, 48, 48, 48, 48, 48, 48, 48, 55, 48, 48, 48, 48, 48, 48, 48, 48, 48, 50, 43, 43] ++ List.replicate 62 43 := by decide +kernel
theorem cells_ok (l : List UInt8) : cellsOk (cellsB l) = true := by
  unfold cellsOk
  rw [List.all_eq_true]
  intro c hc
  obtain ⟨b, _, hc⟩ := List.mem_flatMap.1 hc
  obtain ⟨k, hk, rfl⟩ := List.mem_map.1 hc
  unfold bitC
  have : b.toNat / 2 ^ (7 - k) % 2 = 0 ∨ b.toNat / 2 ^ (7 - k) % 2 = 1 := by omega
  rcases this with h | h <;> rw [h] <;> decide

set_option maxRecDepth 100000 in
set_option maxHeartbeats 1600000 in
theorem awake_any (w : World) (hE : Env w) :
    Calls Tryz.prog 4 #[] w fun e w' => e = .returned (.bool true) ∧ Ext w w' := by
  have hR := fun W => repeat_one 43 65 W (by decide)
  have hS := fun W => (split_any' exS 7 W (by decide)).mono fun e w' h => PcPost.open h
  obtain ⟨p1, hsp⟩ := ex_split
  rw [hsp] at hS
  have hN := fun W (h : Env W) => encode_any exP W (by decide) (by decide) h
  rw [ex_enc] at hN
  have hz : (BA (encL exP)).size = 768 := by
    rw [BA_size]; unfold encL
    rw [List.length_append, cells_len (p := exP) (by decide)]; rfl
  have hcut : (BA (encL exP)).extract 16 768 = BA (cellsB (sealB (headB exP))) := by
    rw [ext_BA]
    unfold encL
    rw [BA_data, List.drop_append, List.drop_eq_nil_of_le (by decide)]
    show BA ((([] : List UInt8) ++ (cellsB (sealB (headB exP))).drop 0).take 752) = _
    rw [List.nil_append, List.drop_zero, List.take_of_length_le (by rw [cells_len (p := exP) (by decide)]; exact Nat.le_refl _)]
  have hT := fun W => toBytes_any (BA (cellsB (sealB (headB exP)))) W (by rw [BA_size, cells_len (p := exP) (by decide)]; decide) (cells_ok _) 94 (by rw [BA_size, cells_len (p := exP) (by decide)])
  rw [BA_data, bytesC_cells] at hT
  have hsz : (BA (sealB (headB exP))).size = 94 := by rw [BA_size, seal_len (p := exP) (by decide)]
  have hpre : Lib.hasPrefix (BA (sealB (headB exP))).data.toList [48, 48, 48, 48, 48, 48, 48, 48, 48, 55, 48, 48, 48, 48, 48, 48, 48, 48, 48, 50, 43, 43] = true := by
    rw [BA_data]
    unfold sealB
    rw [ex_head, List.append_assoc]
    exact List.isPrefixOf_iff_prefix.2 (List.prefix_append _ _)
  have hH := fun W => Tryz.strings_HasPrefix (BA (sealB (headB exP))) ⟨#[48, 48, 48, 48, 48, 48, 48, 48, 48, 55, 48, 48, 48, 48, 48, 48, 48, 48, 48, 50, 43, 43]⟩ W
  have hH' : ∀ W, Calls Tryz.prog 12 #[.string (BA (sealB (headB exP))), .string ⟨#[48, 48, 48, 48, 48, 48, 48, 48, 48, 55, 48, 48, 48, 48, 48, 48, 48, 48, 48, 50, 43, 43]⟩] W fun e w' => e = .returned (.bool true) ∧ w' = W := fun W => by
    have := hH W
    rwa [show Lib.hasPrefix (BA (sealB (headB exP))).data.toList (⟨#[48, 48, 48, 48, 48, 48, 48, 48, 48, 55, 48, 48, 48, 48, 48, 48, 48, 48, 48, 50, 43, 43]⟩ : ByteArray).data.toList = true from hpre] at this
  generalize BA (sealB (headB exP)) = X at *
  generalize BA (cellsB (sealB (headB exP))) = C at *
  simp only at hN
  generalize BA (encL exP) = N at *
  have HR : Hid (∀ W, Calls Tryz.prog 9 #[.string ⟨#[43]⟩, .int .i64 65] W fun e w' => e = .returned (.string exS) ∧ Ext W w') := hR
  generalize exS = S at *
  have HS := Lib.hid hS
  have HN := Lib.hid hN
  have HT := Lib.hid hT
  have HH := Lib.hid hH'
  have HC := Lib.hid hcut
  clear hR hS hN hT hH hH' hcut hpre hsp
  go_enter Tryz.func4, Tryz.ntmps4
  go_wp2_with fail
  refine (HR.out _).mono ?_
  rintro e w1 ⟨rfl, hx1⟩
  go_wp2_with fail
  refine (HS.out _).mono ?_
  rintro e w2 ⟨A, cap, rfl, hl, hx2⟩
  obtain ⟨b, rfl, hc⟩ := hl.at_ (by simp)
  obtain ⟨e1, e2, e3, e4⟩ := hc 0 (by simp)
  have hroom := hl.room
  have hx02 := hx1.trans hx2
  have hE2 := hE.ext hx02
  simp only [List.length_cons, List.length_nil] at hroom
  clear hl hc
  go_wp2_with fail
  refine (HN.out _ hE2).mono ?_
  rintro e w3 ⟨rfl, hx3⟩
  have hx03 := hx02.trans hx3
  clear e1 e2 e3 e4
  have hmin : (min (16 : Int) 768) = 16 := by decide
  go_wp2_with fail
  first | rw [HC.out] | (rw [hmin]; rw [show (16 : Int).toNat = 16 from rfl, HC.out])
  refine (HT.out _).mono ?_
  rintro e w4 ⟨⟨v, rfl⟩, hx4⟩
  go_wp2_with fail
  refine (HH.out _).mono ?_
  rintro e w5 ⟨rfl, rfl⟩
  go_wp2_with fail
  go_ret
  exact ⟨rfl, hx03.trans hx4⟩

end Go.Proofs.YtboafongjbdmoaaGreatDoor
