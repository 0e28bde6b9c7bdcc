/- The checksum by cells: other cells in a window of 32 change it. (Layer 26) -/
import Derived.Test.YtjmglbppmolipaaGreatDoorPfPlain
import Derived.Test.YtjmglbppmolipaaGreatDoorPfBytes
namespace Go.Proofs.YtjmglbppmolipaaGreatDoor.Crc

def bitW (b : Bool) : BitVec 32 := if b then 0x80000000#32 else 0#32
/-- the register after some cells -/
def updB (r : BitVec 32) (l : List Bool) : BitVec 32 := l.foldl (fun r b => dbl (r ^^^ bitW b)) r
def cellOf (c : UInt8) : Bool := c == 49
theorem updB_append (r : BitVec 32) (l m : List Bool) : updB r (l ++ m) = updB (updB r l) m := by simp [updB]
theorem updB_cons (r : BitVec 32) (b : Bool) (l : List Bool) : updB r (b :: l) = updB (dbl (r ^^^ bitW b)) l := rfl
theorem updB_split (l : List Bool) : ∀ r s, updB (r ^^^ s) l = dbls l.length r ^^^ updB s l := by
  induction l with
  | nil => intro r s; rfl
  | cons b l ih =>
    intro r s
    rw [updB_cons, updB_cons, BitVec.xor_assoc, dbl_xor, ih]
    rfl
theorem updB_inj (l : List Bool) (r s : BitVec 32) (h : updB r l = updB s l) : r = s := by
  have h1 := updB_split l r 0#32
  have h2 := updB_split l s 0#32
  rw [BitVec.xor_zero] at h1 h2
  rw [h1, h2] at h
  have h3 : dbls l.length r = dbls l.length s := by
    have := congrArg (· ^^^ updB 0#32 l) h
    simpa [BitVec.xor_assoc] using this
  exact dbls_inj _ _ _ h3
theorem byte_bits : ∀ b : Fin 256, upd1 0#32 (UInt8.ofNat b.val) = updB 0#32 ((bits8 (UInt8.ofNat b.val)).map cellOf) := by decide +kernel
theorem upd1_bits (r : BitVec 32) (b : UInt8) : upd1 r b = updB r ((bits8 b).map cellOf) := by
  have h := byte_bits ⟨b.toNat, b.toNat_lt⟩
  simp only [UInt8.ofNat_toNat] at h
  have h1 := upd1_split r 0#32 b
  have h2 := updB_split ((bits8 b).map cellOf) r 0#32
  rw [BitVec.xor_zero] at h1 h2
  rw [h1, h2, h]
  simp [bits8]
theorem upd_bits (l : List UInt8) : ∀ r, upd r l = updB r ((cellsB l).map cellOf) := by
  induction l with
  | nil => intro r; rfl
  | cons b l ih =>
    intro r
    show upd (upd1 r b) l = updB r ((bits8 b ++ cellsB l).map cellOf)
    rw [List.map_append, updB_append, ← upd1_bits, ih]

/-- cells, the first one highest -/
def wordB : List Bool → BitVec 32
  | [] => 0#32
  | b :: d => bitW b ^^^ (wordB d >>> 1)
theorem bitW_low (b : Bool) (j : Nat) (h : j < 31) : (bitW b).getLsbD j = false := by
  cases b
  · simp [bitW]
  · show (0x80000000#32).getLsbD j = false
    exact (by decide : ∀ j : Fin 31, (0x80000000#32).getLsbD j.val = false) ⟨j, h⟩
theorem wordB_low : ∀ (d : List Bool) (j : Nat), j + d.length < 32 → (wordB d).getLsbD j = false
  | [], j, _ => by simp [wordB]
  | b :: d, j, h => by
    simp only [List.length_cons] at h
    show (bitW b ^^^ (wordB d >>> 1)).getLsbD j = false
    rw [BitVec.getLsbD_xor, bitW_low b j (by omega), BitVec.getLsbD_ushiftRight, Nat.add_comm 1 j, wordB_low d (j + 1) (by omega)]
    rfl
theorem dbl_half (x : BitVec 32) (h : x.getLsbD 0 = false) : dbl (x >>> 1) = x := by
  have h31 : (x >>> 1).getLsbD 31 = false := by simp
  unfold dbl
  rw [h31, if_neg (by decide)]
  apply BitVec.eq_of_getLsbD_eq
  intro i hi
  rw [BitVec.getLsbD_shiftLeft]
  match i with
  | 0 => rw [h]; simp
  | i + 1 => simp [hi, Nat.add_comm]
theorem updB_word : ∀ (d : List Bool) (r : BitVec 32), d.length ≤ 32 → updB r d = dbls d.length (r ^^^ wordB d)
  | [], r, _ => by simp [updB, wordB, dbls]
  | b :: d, r, h => by
    simp only [List.length_cons] at h
    rw [updB_cons, updB_word d _ (by omega)]
    show dbls d.length (dbl (r ^^^ bitW b) ^^^ wordB d) = dbls d.length (dbl (r ^^^ (bitW b ^^^ (wordB d >>> 1))))
    rw [← BitVec.xor_assoc, dbl_xor (r ^^^ bitW b), dbl_half _ (wordB_low d 0 (by omega))]
theorem wordB_inj : ∀ (x y : List Bool), x.length = y.length → x.length ≤ 32 → wordB x = wordB y → x = y
  | [], [], _, _, _ => rfl
  | a :: x, b :: y, h1, h2, h => by
    simp only [List.length_cons] at h1 h2
    have h : bitW a ^^^ (wordB x >>> 1) = bitW b ^^^ (wordB y >>> 1) := h
    have hab : a = b := by
      have := congrArg (·.getLsbD 31) h
      simp only [BitVec.getLsbD_xor] at this
      rw [show (wordB x >>> 1).getLsbD 31 = false by simp, show (wordB y >>> 1).getLsbD 31 = false by simp] at this
      cases a <;> cases b <;> simp_all [bitW]
    subst hab
    have h3 : wordB x >>> 1 = wordB y >>> 1 := by
      have := congrArg (bitW a ^^^ ·) h
      simpa [← BitVec.xor_assoc] using this
    have h4 := congrArg dbl h3
    rw [dbl_half _ (wordB_low x 0 (by omega)), dbl_half _ (wordB_low y 0 (by omega))] at h4
    rw [wordB_inj x y (by omega) (by omega) h4]
theorem burst_bits (r : BitVec 32) (a x y c : List Bool) (h1 : x.length = y.length) (h2 : x.length ≤ 32) (h : updB r (a ++ x ++ c) = updB r (a ++ y ++ c)) : x = y := by
  rw [updB_append, updB_append, updB_append r _ c, updB_append] at h
  have h3 := updB_inj c _ _ h
  rw [updB_word x _ h2, updB_word y _ (by omega), h1] at h3
  have h4 := dbls_inj _ _ _ h3
  have h5 := congrArg (updB r a ^^^ ·) h4
  simp only [← BitVec.xor_assoc, BitVec.xor_self, BitVec.zero_xor] at h5
  exact wordB_inj x y h1 h2 h5
end Go.Proofs.YtjmglbppmolipaaGreatDoor.Crc
namespace Go.Proofs.YtjmglbppmolipaaGreatDoor

theorem cells_mem (l : List UInt8) (c : UInt8) (h : c ∈ cellsB l) : c = 48 ∨ c = 49 := by
  obtain ⟨b, _, hc⟩ := List.mem_flatMap.1 h
  obtain ⟨k, hk, rfl⟩ := List.mem_map.1 hc
  unfold bitC
  have : b.toNat / 2 ^ (7 - k) % 2 = 0 ∨ b.toNat / 2 ^ (7 - k) % 2 = 1 := by omega
  rcases this with h | h <;> rw [h]
  · exact Or.inl rfl
  · exact Or.inr rfl
theorem cells_back : ∀ l : List UInt8, (∀ c ∈ l, c = 48 ∨ c = 49) → (l.map Crc.cellOf).map (fun b => if b then (49 : UInt8) else 48) = l
  | [], _ => rfl
  | c :: l, h => by
    rw [List.map_cons, List.map_cons, cells_back l (fun c hc => h c (List.mem_cons_of_mem _ hc))]
    rcases h c (List.mem_cons_self ..) with rfl | rfl <;> rfl
theorem cellsB_inj (t t' : List UInt8) (h : cellsB t = cellsB t') : t = t' := by rw [← bytesC_cells t, h, bytesC_cells]
theorem crc_cells_ne (t t' : List UInt8) (k : Nat) (hl : t.length = t'.length) (h1 : (cellsB t).take k = (cellsB t').take k) (h2 : (cellsB t).drop (k + 32) = (cellsB t').drop (k + 32)) (h : crcS t = crcS t') : t = t' := by
  have hu : Crc.upd Crc.ini t = Crc.upd Crc.ini t' := BitVec.eq_of_toNat_eq h
  rw [Crc.upd_bits, Crc.upd_bits] at hu
  have e : ∀ l : List UInt8, l.map Crc.cellOf = (l.take k).map Crc.cellOf ++ ((l.drop k).take 32).map Crc.cellOf ++ (l.drop (k + 32)).map Crc.cellOf := by
    intro l
    rw [← List.map_append, ← List.map_append]
    congr 1
    rw [List.append_assoc, show l.drop (k + 32) = (l.drop k).drop 32 by rw [List.drop_drop], List.take_append_drop, List.take_append_drop]
  rw [e (cellsB t), e (cellsB t'), h1, h2] at hu
  have hx := Crc.burst_bits _ _ _ _ _ (by simp [cellsB_len, hl]) (by simp; omega) hu
  have hm : (cellsB t).map Crc.cellOf = (cellsB t').map Crc.cellOf := by rw [e (cellsB t), e (cellsB t'), h1, h2, hx]
  apply cellsB_inj
  rw [← cells_back _ (cells_mem t), ← cells_back _ (cells_mem t'), hm]
end Go.Proofs.YtjmglbppmolipaaGreatDoor
