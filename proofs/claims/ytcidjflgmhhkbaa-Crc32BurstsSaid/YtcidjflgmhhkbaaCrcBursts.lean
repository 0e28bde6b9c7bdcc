/- The walk of Crc32Bursts: it returns true and changes nothing that was there. -/
import Derived.Test.YtcidjflgmhhkbaaCrcXor
import Derived.Test.YtcidjflgmhhkbaaCrcBurst
import Derived.Lib.ConvBytes
import Derived.BigRegion
namespace Go.Proofs.Ytcidjflgmhhkbaa
open Go.RowKit
set_option linter.unusedVariables false

theorem bytesWorld_below (w : World) (e : TypeId) (s : ByteArray) : Below w.heap.size w (Lib.bytesWorld w e s) :=
  ⟨by unfold Lib.bytesWorld World.freeze; split <;> rfl, by unfold Lib.bytesWorld World.freeze; split <;> rfl, by unfold Lib.bytesWorld World.freeze; split <;> rfl,
    by rw [Lib.bytesWorld_size]; omega, fun k hk => Lib.bytesWorld_at_old w e s k hk⟩

theorem bytesWorld_free (w : World) (e : TypeId) (s : ByteArray) (j : Nat) (hj : j < s.size) : (Lib.bytesWorld w e s).frozen? ⟨w.heap.size, j, none⟩ = false := by
  have h : s.size ≤ (Lib.bytesCells w e s).size := by
    have : s.data.size = s.size := rfl
    simp [Lib.bytesCells]
  simp [World.frozen?, Lib.bytesWorld_at_new]
  intro h2; omega

/-- block B holds the bytes l -/
structure Bytes (w : World) (B : Nat) (l : List UInt8) : Prop where
  cell : ∀ j, j < l.length → w.cell? ⟨B, j, none⟩ = some (.int .u8 ((l.getD j 0).toNat : Int))
  free : ∀ j, j < l.length → w.frozen? ⟨B, j, none⟩ = false

theorem Bytes.drew {w : World} {B : Nat} {l : List UInt8} (h : Bytes w B l) : Bytes w.drew B l := ⟨h.cell, h.free⟩

theorem Bytes.set {w : World} {B : Nat} {l l' : List UInt8} (h : Bytes w B l) (j : Nat) (x : UInt8) (hj : j < l.length) (hl : l'.length = l.length) (hx : l'.getD j 0 = x)
    (ho : ∀ i, i < l.length → i ≠ j → l'.getD i 0 = l.getD i 0) : Bytes (w.setCell ⟨B, j, none⟩ (.int .u8 (x.toNat : Int))) B l' := by
  refine ⟨fun i hi => ?_, fun i hi => ?_⟩
  · by_cases hij : i = j
    · subst hij
      rw [World.cell?_setCell_same' _ _ _ (by rw [h.cell i hj]; rfl), hx]
    · have hne : (⟨B, j, none⟩ : Addr) ≠ ⟨B, i, none⟩ := by intro e; exact hij (by cases e; rfl)
      rw [World.cell?_setCell_other _ _ _ _ hne, h.cell i (by omega), ho i (by omega) hij]
  · rw [World.frozen?_setCell]; exact h.free i (by omega)

theorem Bytes.string {w : World} {B : Nat} {l : List UInt8} (h : Bytes w B l) (cap : Nat) :
    (convert 35 9 (.slice (some ⟨B, 0, none⟩) l.length cap)).run Try.prog w = .ok (.string ⟨l.toArray⟩) w :=
  run_convert_bytes_back w 35 9 5 ⟨B, 0, none⟩ cap l Try.underlying35 Try.underlying5 Try.underlying9 (by
    intro j hj
    have ha : (⟨B, 0, none⟩ : Addr).add j = ⟨B, j, none⟩ := by
      unfold Addr.add
      split
      · rename_i h0; rw [h0]
      · rw [Nat.zero_add]
    rw [ha, h.cell j hj, List.getD_eq_getElem?_getD, List.getElem?_eq_getElem hj, Option.getD_some])

theorem xor8_db (c : UInt8) (x : BitVec 32) (e i : Nat) : bits .xor .u8 (c.toNat : Int) ((x.toNat : Int) * 2 ^ e / 2 ^ (32 - 8 * i) % 256) = ((c ^^^ Crc.db x e i).toNat : Int) := by
  have : (x.toNat : Int) * 2 ^ e / 2 ^ (32 - 8 * i) % 256 = ((Crc.db x e i).toNat : Int) := by
    unfold Crc.db
    simp only [UInt8.toNat_ofNat', Int.natCast_emod, Int.natCast_ediv, Int.natCast_mul, Int.natCast_pow]
    rfl
  rw [this, bits_xor8]

set_option maxHeartbeats 1000000 in
theorem bursts_walk (a0 : ByteArray) (a1 a2 : Int) (w0 : a0.size ≤ maxLen) (w1 : (Lit.int .u16 a1).wf = true) (w2 : (Lit.int .u32 a2).wf = true) (w : World) :
    Calls Try.prog 6 #[.string a0, .int .u16 a1, .int .u32 a2] w fun e w' => e = .returned (.bool true) ∧ Below w.heap.size w w' := by
  obtain ⟨x, rfl⟩ := u32_bv w2
  have hb : 0 ≤ a1 ∧ a1 ≤ 65535 := by
    simp [Lit.wf, IntKind.min, IntKind.max, IntKind.bits, IntKind.signed] at w1
    omega
  obtain ⟨m, rfl⟩ := Int.eq_ofNat_of_zero_le hb.1
  have hm : m ≤ 65535 := by omega
  clear hb w1 w2
  have H0 := w0
  unfold maxLen at w0
  by_cases h1 : (a0.size : Int) < 5
  · go_enter Try.func6, Try.ntmps6
    go_wp2_with fail
    refine (awake_any _).mono ?_
    rintro e w' ⟨rfl, hb⟩
    go_wp2_with fail
    go_ret
    exact ⟨rfl, hb⟩
  by_cases h2 : 100 < (a0.size : Int)
  · go_enter Try.func6, Try.ntmps6
    go_wp2_with fail
    refine (awake_any _).mono ?_
    rintro e w' ⟨rfl, hb⟩
    go_wp2_with fail
    go_ret
    exact ⟨rfl, hb⟩
  by_cases h3 : ((x.toNat : Int) == 0) = true
  · go_enter Try.func6, Try.ntmps6
    go_wp2_with fail
    refine (awake_any _).mono ?_
    rintro e w' ⟨rfl, hb⟩
    go_wp2_with fail
    go_ret
    exact ⟨rfl, hb⟩
  · have h3' : ((x.toNat : Int) == 0) = false := by simpa using h3
    have hx : x ≠ 0#32 := by intro e; subst e; exact h3 rfl
    clear h3
    obtain ⟨k, hk0, hk⟩ : ∃ k : Nat, k ≤ 8 * a0.size - 40 ∧ (m : Int) % (8 * (a0.size : Int) - 39) = (k : Int) := by
      refine ⟨m % (8 * a0.size - 39), ?_, ?_⟩
      · have := Nat.mod_lt m (show 0 < 8 * a0.size - 39 by omega)
        omega
      · rw [show (8 * (a0.size : Int) - 39) = ((8 * a0.size - 39 : Nat) : Int) by omega]; rfl
    obtain ⟨s, hs0, hks⟩ : ∃ s : Nat, s ≤ 7 ∧ (k : Int) % 8 = (s : Int) := ⟨k % 8, by omega, by omega⟩
    have hq : k / 8 + 5 ≤ a0.size := by omega
    have hwide : IntKind.u64.wrap ((x.toNat : Int) * 2 ^ (8 - s)) = ((x.toNat * 2 ^ (8 - s) : Nat) : Int) := by
      have hxl := x.isLt
      have : x.toNat * 2 ^ (8 - s) < 2 ^ 32 * 2 ^ 8 := Nat.mul_lt_mul_of_lt_of_le hxl (Nat.pow_le_pow_right (by decide) (by omega)) (by decide)
      rw [show (x.toNat : Int) * 2 ^ (8 - s) = ((x.toNat * 2 ^ (8 - s) : Nat) : Int) by norm_cast]
      exact IntWalk.u64_in _ (by omega)
    have hcv := fun W => Lib.run_convert_string_bytes (P := Try.prog) W 9 35 5 a0 Try.underlying9 Try.underlying35 Try.underlying5
    have hB0 : Bytes (Lib.bytesWorld w 5 a0) w.heap.size (Crc.flip a0.data.toList (k / 8) (Crc.db x (8 - s)) 0) := by
      rw [Crc.flip_zero]
      exact ⟨fun j hj => Lib.bytesWorld_cell w _ a0 j hj, fun j hj => bytesWorld_free w _ a0 j hj⟩
    have hbel := bytesWorld_below w 5 a0
    have hne := Crc.flip_ne a0.data.toList (k / 8) x (8 - s) hq (by omega) hx Crc.ini
    have HB := Lib.hid (fun c i => xor8_db c x (8 - s) i)
    have hflen : ∀ i, (Crc.flip a0.data.toList (k / 8) (Crc.db x (8 - s)) i).length = a0.size := fun i => Crc.flip_length _ _ _ _
    have hfget := Crc.flip_get a0.data.toList (k / 8) (Crc.db x (8 - s))
    have HL := Lib.hid hflen
    have HG := Lib.hid hfget
    have HN := Lib.hid hne
    have HBL := Lib.hid hbel
    have HB0 := Lib.hid hB0
    clear hflen hfget hne hbel hB0 hx
    go_enter Try.func6, Try.ntmps6
    go_wp2_with fail
    generalize grownCap w a0.size 0 5 = cap
    generalize Lib.bytesWorld w 5 a0 = W0 at HBL HB0 ⊢
    clear hcv hwide
    go_loopw [10] (fun i wr => ∃ n : Nat, n ≤ 5 ∧ i = .int .i64 n ∧ Bytes wr w.heap.size (Crc.flip a0.data.toList (k / 8) (Crc.db x (8 - s)) n) ∧ Below w.heap.size w wr) (fun i _ => 5 - (intOf i).toNat)
    case atStart => exact ⟨0, Nat.zero_le _, rfl, HB0.out, HBL.out⟩
    case round =>
      obtain ⟨n, hn, rfl, hby, hbr⟩ := hrel
      have HBY := Lib.hid hby
      clear hby
      by_cases hlt : n < 5
      · obtain ⟨c, hc⟩ : ∃ c, c = (Crc.flip a0.data.toList (k / 8) (Crc.db x (8 - s)) n).getD (k / 8 + n) 0 := ⟨_, rfl⟩
        have hcell : wr.cell? ⟨w.heap.size, k / 8 + n, none⟩ = some (.int .u8 (c.toNat : Int)) := by rw [hc]; exact HBY.out.cell _ (by rw [HL.out]; omega)
        have hfree : wr.frozen? ⟨w.heap.size, k / 8 + n, none⟩ = false := HBY.out.free _ (by rw [HL.out]; omega)
        have hxor := HB.out c n
        obtain ⟨e, he⟩ : ∃ e, e = c ^^^ Crc.db x (8 - s) n := ⟨_, rfl⟩
        rw [← he] at hxor
        have hby' := HBY.out.set (k / 8 + n) e (l' := Crc.flip a0.data.toList (k / 8) (Crc.db x (8 - s)) (n + 1)) (by rw [HL.out]; omega) (by rw [HL.out, HL.out])
          (by
            have hj : k / 8 + n < a0.data.toList.length := by have : a0.data.toList.length = a0.size := rfl; omega
            have g1 := HG.out (n + 1) (k / 8 + n) hj
            have g0 := HG.out n (k / 8 + n) hj
            rw [if_pos (by omega)] at g1
            rw [if_neg (by omega)] at g0
            rw [List.getD_eq_getElem?_getD, List.getElem?_eq_getElem (by rw [HL.out]; exact hj)] at hc ⊢
            simp only [Option.getD_some] at hc ⊢
            rw [he, hc, g1, g0, Nat.add_sub_cancel_left])
          (by
            intro i hi hij
            rw [HL.out] at hi
            have g1 := HG.out (n + 1) i hi
            have g0 := HG.out n i hi
            rw [List.getD_eq_getElem?_getD, List.getElem?_eq_getElem (by rw [HL.out]; exact hi), List.getD_eq_getElem?_getD, List.getElem?_eq_getElem (by rw [HL.out]; exact hi)]
            simp only [Option.getD_some]
            rw [g1, g0]
            by_cases h5 : k / 8 ≤ i ∧ i < k / 8 + n
            · rw [if_pos h5, if_pos (by omega)]
            · rw [if_neg h5, if_neg (by omega)])
        rw [← hxor] at hby'
        have HBY' := Lib.hid hby'
        clear he hc hby' hxor
        go_wp2_with fail
        go_region
        go_wp2_with fail
        go_roundw
        case rel => exact ⟨n + 1, by omega, by go_num, HBY'.out.drew, (hbr.setCell (by simp) _).drew⟩
        case measure => simp [intOf]; omega
      · obtain rfl : n = 5 := by omega
        have hz := HBY.out.string cap
        rw [HL.out] at hz
        have hzl : (⟨(Crc.flip a0.data.toList (k / 8) (Crc.db x (8 - s)) 5).toArray⟩ : ByteArray).data.toList = Crc.flip a0.data.toList (k / 8) (Crc.db x (8 - s)) 5 := rfl
        generalize hgz : (⟨(Crc.flip a0.data.toList (k / 8) (Crc.db x (8 - s)) 5).toArray⟩ : ByteArray) = z at hz hzl
        have hzs : z.size ≤ maxLen := by
          have e1 : z.size = z.data.toList.length := rfl
          rw [e1, hzl, HL.out]; exact H0
        have hN := HN.out
        rw [← hzl] at hN
        have hza : (z.toList == a0.toList) = false := by
          rw [beq_eq_false_iff_ne, ByteArray.toList_eq, ByteArray.toList_eq]
          intro e; rw [e] at hN; exact hN rfl
        have hD : ¬ ((Crc.upd Crc.ini z.data.toList).toNat : Int) = ((Crc.upd Crc.ini a0.data.toList).toNat : Int) := by
          intro e
          exact hN (BitVec.eq_of_toNat_eq (by omega))
        have hS := fun b W => sum_one z b W hzs
        have hT := fun b W => sum_one a0 b W H0
        clear hgz hzl hzs hN HN HBY HL HG HB H0
        generalize (Crc.upd Crc.ini z.data.toList) = A at hD hS
        generalize (Crc.upd Crc.ini a0.data.toList) = B at hD hT
        have hd1 : ((A.toNat : Int) == (B.toNat : Int)) = false := by simpa using hD
        have hd2 : ((A.toNat : Int) != (B.toNat : Int)) = true := by simpa using hD
        have HS := Lib.hid hS
        have HT := Lib.hid hT
        clear hS hT hD
        go_wp2_with fail
        refine (HS.out _ _ (by go_cell)).mono ?_
        rintro e w' ⟨rfl, rfl⟩
        go_wp2_with fail
        refine (HT.out _ _ (by go_cell)).mono ?_
        rintro e w' ⟨rfl, rfl⟩
        go_wp2_with fail
        refine (awake_any _).mono ?_
        rintro e w' ⟨rfl, hb3⟩
        go_wp2_with fail
        go_ret
        exact ⟨rfl, bapp (balloc (balloc hbr _) _) hb3⟩
end Go.Proofs.Ytcidjflgmhhkbaa
