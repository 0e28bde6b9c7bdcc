/- What Decode answers, in plain words. (Layer 26) -/
import Derived.Test.YtjmglbppmolipaaGreatDoorPfBurstP
import Derived.Test.YtjmglbppmolipaaGreatDoorPfEnc
import Derived.Lib.AtoiAll
namespace Go.Proofs.YtjmglbppmolipaaGreatDoor

def digC (c : UInt8) : Bool := decide (48 ≤ c.toNat) && decide (c.toNat ≤ 57)
def digB (l : List UInt8) : Bool := l.all digC
def numF (acc : Nat) (l : List UInt8) : Nat := l.foldl (fun a c => 10 * a + (c.toNat - 48)) acc
def numD (l : List UInt8) : Nat := numF 0 l
def zP : Pc := ⟨0, 0, 0, ByteArray.empty⟩
/-- the fields of a text whose checksum is right -/
def fieldsA (t : List UInt8) : Pc × Int :=
  if digB (t.take 20) = false then (zP, 3) else if 4294967295 < numD (t.take 10) then (zP, 2) else
  if checkZ (numD ((t.drop 10).take 5)) (numD ((t.drop 15).take 5)) (BA ((t.drop 20).take 64)) ≠ 0 then (zP, checkZ (numD ((t.drop 10).take 5)) (numD ((t.drop 15).take 5)) (BA ((t.drop 20).take 64)))
  else (⟨numD (t.take 10), numD ((t.drop 10).take 5), numD ((t.drop 15).take 5), BA ((t.drop 20).take 64)⟩, 0)
def textA (t : List UInt8) : Pc × Int := if t.drop 84 = lowD 10 (crcS (t.take 84)) then fieldsA t else (zP, 5)
def decodeA (c : List UInt8) : Pc × Int :=
  if cellsOk c = false then (zP, 3) else if c.length ≠ 752 then (zP, 4) else if c.contains 63 = true then (zP, 11) else textA (bytesC c)

theorem digC_digit (d : Nat) : digC (UInt8.ofNat (48 + d % 10)) = true ∧ (UInt8.ofNat (48 + d % 10)).toNat - 48 = d % 10 := by
  have h : (UInt8.ofNat (48 + d % 10)).toNat = 48 + d % 10 := by rw [UInt8.toNat_ofNat']; omega
  unfold digC
  rw [h]
  refine ⟨?_, by omega⟩
  rw [Bool.and_eq_true, decide_eq_true_eq, decide_eq_true_eq]
  omega
theorem digB_append (a b : List UInt8) : digB (a ++ b) = (digB a && digB b) := List.all_append
theorem digB_low : ∀ k n, digB (lowD k n) = true
  | 0, _ => rfl
  | k + 1, n => by
    show digB (lowD k (n / 10) ++ [_]) = true
    rw [digB_append, digB_low k, Bool.true_and]
    show (digC (UInt8.ofNat (48 + n % 10)) && true) = true
    rw [(digC_digit n).1]; rfl
theorem numD_low : ∀ k n, numD (lowD k n) = n % 10 ^ k
  | 0, n => by simp [lowD, numD, numF, Nat.mod_one]
  | k + 1, n => by
    show numF 0 (lowD k (n / 10) ++ [UInt8.ofNat (48 + n % 10)]) = _
    unfold numF
    rw [List.foldl_append]
    show 10 * numD (lowD k (n / 10)) + ((UInt8.ofNat (48 + n % 10)).toNat - 48) = _
    rw [numD_low k, (digC_digit n).2, Nat.pow_succ, Nat.mul_comm (10 ^ k) 10, Nat.mod_mul, Nat.add_comm]
theorem numF_lt : ∀ (l : List UInt8) (acc k : Nat), acc < 10 ^ k → digB l = true → numF acc l < 10 ^ (k + l.length)
  | [], _, _, h, _ => h
  | c :: l, acc, k, h, hd => by
    have hd : (digC c && digB l) = true := hd
    rw [Bool.and_eq_true] at hd
    have hc := hd.1
    unfold digC at hc
    rw [Bool.and_eq_true, decide_eq_true_eq, decide_eq_true_eq] at hc
    have := numF_lt l (10 * acc + (c.toNat - 48)) (k + 1) (by rw [Nat.pow_succ]; omega) hd.2
    rw [List.length_cons, Nat.add_comm l.length 1, ← Nat.add_assoc]
    exact this
theorem numD_lt (l : List UInt8) (h : digB l = true) : numD l < 10 ^ l.length := by
  have := numF_lt l 0 0 (by decide) h
  rwa [Nat.zero_add] at this
theorem parse_digits : ∀ (l : List UInt8) (acc k : Nat), acc < 10 ^ k → k + l.length ≤ 18 → digB l = true → Lib.parseUint10 acc l = .ok (numF acc l)
  | [], _, _, _, _, _ => rfl
  | c :: l, acc, k, h, hk, hd => by
    have hd : (digC c && digB l) = true := hd
    rw [Bool.and_eq_true] at hd
    have hc := hd.1
    unfold digC at hc
    rw [Bool.and_eq_true, decide_eq_true_eq, decide_eq_true_eq] at hc
    have hk' : k + (l.length + 1) ≤ 18 := hk
    have hp : 10 ^ k ≤ 10 ^ 17 := Nat.pow_le_pow_right (by decide) (by omega)
    have e17 : 10 ^ 17 = 100000000000000000 := by decide
    unfold Lib.parseUint10
    rw [if_pos hc, if_neg (by omega), if_neg (by omega), Nat.mul_comm acc 10]
    exact parse_digits l _ (k + 1) (by rw [Nat.pow_succ]; omega) (by omega) hd.2

theorem mod_low {n m : Nat} (h : n < m) : n % m = n := Nat.mod_eq_of_lt h
theorem head_parts (p : Pc) : (sealB (headB p)).take 10 = lowD 10 p.arch ∧ ((sealB (headB p)).drop 10).take 5 = lowD 5 p.index.toNat ∧ ((sealB (headB p)).drop 15).take 5 = lowD 5 p.total.toNat ∧ (sealB (headB p)).drop 20 = p.text.data.toList ++ lowD 10 (crcS (headB p)) := by
  have e : sealB (headB p) = lowD 10 p.arch ++ (lowD 5 p.index.toNat ++ (lowD 5 p.total.toNat ++ (p.text.data.toList ++ lowD 10 (crcS (headB p))))) := by
    unfold sealB
    conv => lhs; lhs; unfold headB
    simp only [List.append_assoc]
  rw [e]
  have l1 := lowD_len 10 p.arch
  have l2 := lowD_len 5 p.index.toNat
  have l3 := lowD_len 5 p.total.toNat
  refine ⟨?_, ?_, ?_, ?_⟩
  · rw [List.take_append_of_le_length (by omega), List.take_of_length_le (by omega)]
  · rw [List.drop_append, List.drop_eq_nil_of_le (by omega), l1]
    show (_ ++ List.drop 0 _).take 5 = _
    rw [List.nil_append, List.drop_zero, List.take_append_of_le_length (by omega), List.take_of_length_le (by omega)]
  · rw [List.drop_append, List.drop_eq_nil_of_le (by omega), l1]
    show (([] : List UInt8) ++ List.drop 5 _).take 5 = _
    rw [List.nil_append, List.drop_append, List.drop_eq_nil_of_le (by omega), l2]
    show (([] : List UInt8) ++ List.drop 0 _).take 5 = _
    rw [List.nil_append, List.drop_zero, List.take_append_of_le_length (by omega), List.take_of_length_le (by omega)]
  · rw [List.drop_append, List.drop_eq_nil_of_le (by omega), l1, List.nil_append]
    show List.drop 10 _ = _
    rw [List.drop_append, List.drop_eq_nil_of_le (by omega), l2, List.nil_append]
    show List.drop 5 _ = _
    rw [List.drop_append, List.drop_eq_nil_of_le (by omega), l3, List.nil_append]
    rfl
theorem seal_take (l : List UInt8) (h : l.length = 84) : (sealB l).take 84 = l ∧ (sealB l).drop 84 = lowD 10 (crcS l) := by
  unfold sealB
  constructor
  · rw [List.take_append_of_le_length (by omega), List.take_of_length_le (by omega)]
  · rw [List.drop_append, List.drop_eq_nil_of_le (by omega), h]; rfl
/-- a valid frame comes back -/
theorem text_back (p : Pc) (ha : p.arch < 4294967296) (hc : checkZ p.index p.total p.text = 0) : textA (sealB (headB p)) = (p, 0) := by
  obtain ⟨c1, c2, c3, c4, c5, c6⟩ := check_ok hc
  have hl := head_len (p := p) c5
  obtain ⟨h1, h2⟩ := seal_take _ hl
  obtain ⟨p1, p2, p3, p4⟩ := head_parts p
  unfold textA
  rw [h1, h2, if_pos rfl]
  unfold fieldsA
  have ed : digB ((sealB (headB p)).take 20) = true := by
    have : (sealB (headB p)).take 20 = (sealB (headB p)).take 10 ++ (((sealB (headB p)).drop 10).take 5 ++ ((sealB (headB p)).drop 15).take 5) := by
      rw [show (20 : Nat) = 10 + 10 from rfl, List.take_add, show ((sealB (headB p)).drop 10).take 10 = ((sealB (headB p)).drop 10).take (5 + 5) from rfl, List.take_add, List.drop_drop]
    rw [this, p1, p2, p3, digB_append, digB_append, digB_low, digB_low, digB_low]; rfl
  have e1 : numD ((sealB (headB p)).take 10) = p.arch := by rw [p1, numD_low, mod_low (Nat.lt_of_lt_of_le ha (by decide))]
  have e2 : (numD (((sealB (headB p)).drop 10).take 5) : Int) = p.index := by rw [p2, numD_low, mod_low (by omega)]; omega
  have e3 : (numD (((sealB (headB p)).drop 15).take 5) : Int) = p.total := by rw [p3, numD_low, mod_low (by omega)]; omega
  have e4 : BA (((sealB (headB p)).drop 20).take 64) = p.text := by
    rw [p4, List.take_append_of_le_length (by show 64 ≤ p.text.size; omega), List.take_of_length_le (by show p.text.size ≤ 64; omega), BA_of]
  rw [ed, if_neg (by decide), e1, e2, e3, e4, hc, if_neg (by omega), if_neg (by decide)]
theorem cells_no63 (l : List UInt8) : (cellsB l).contains 63 = false := by
  rw [Bool.eq_false_iff]
  intro h
  rw [List.contains_iff_mem] at h
  rcases cells_mem l _ h with h | h <;> exact absurd h (by decide)
theorem cells_oks (l : List UInt8) (h : ∀ c ∈ l, c = 48 ∨ c = 49 ∨ c = 63) : cellsOk l = true := by
  unfold cellsOk
  rw [List.all_eq_true]
  intro c hc
  rcases h c hc with rfl | rfl | rfl <;> decide
theorem decode_cells (t : List UInt8) (h : t.length = 94) : decodeA (cellsB t) = textA t := by
  unfold decodeA
  rw [cells_oks _ (fun c hc => (cells_mem t c hc).imp id .inl), if_neg (by decide), if_neg (by rw [cellsB_len]; omega), cells_no63, if_neg (by decide), bytesC_cells]

theorem lowD_inj (k : Nat) (n m : Nat) (hn : n < 10 ^ k) (hm : m < 10 ^ k) (h : lowD k n = lowD k m) : n = m := by
  have := congrArg numD h
  rwa [numD_low, numD_low, Nat.mod_eq_of_lt hn, Nat.mod_eq_of_lt hm] at this
/-- other cells in a window of 32 are seen -/
theorem text_window (l t' : List UInt8) (k : Nat) (hl : l.length = 84) (ht : t'.length = 94) (h1 : (cellsB (sealB l)).take k = (cellsB t').take k) (h2 : (cellsB (sealB l)).drop (k + 32) = (cellsB t').drop (k + 32)) (hk : k + 32 ≤ 672) (hne : t' ≠ sealB l) :
    textA t' = (zP, 5) := by
  obtain ⟨s1, s2⟩ := seal_take l hl
  unfold textA
  rw [if_neg]
  intro h
  have hs : t' = t'.take 84 ++ t'.drop 84 := (List.take_append_drop 84 t').symm
  have e1 : cellsB (sealB l) = cellsB l ++ cellsB (lowD 10 (crcS l)) := by unfold sealB; rw [cellsB_append]
  have e2 : cellsB t' = cellsB (t'.take 84) ++ cellsB (t'.drop 84) := by rw [← cellsB_append, ← hs]
  have n1 : (cellsB l).length = 672 := by rw [cellsB_len, hl]
  have n2 : (cellsB (t'.take 84)).length = 672 := by rw [cellsB_len, List.length_take, ht]; rfl
  rw [e1, e2] at h1 h2
  rw [List.take_append_of_le_length (by omega), List.take_append_of_le_length (by omega)] at h1
  rw [List.drop_append_of_le_length (by omega), List.drop_append_of_le_length (by omega)] at h2
  have h3 := List.append_inj h2 (by rw [List.length_drop, List.length_drop, n1, n2])
  have h4 := cellsB_inj _ _ h3.2
  rw [h] at h4
  have h5 := lowD_inj 10 _ _ (Nat.lt_of_lt_of_le (crcS_lt l) (by decide)) (Nat.lt_of_lt_of_le (crcS_lt (t'.take 84)) (by decide)) h4
  have h6 := crc_cells_ne l (t'.take 84) k (by rw [hl, List.length_take, ht]; rfl) h1 h3.1 h5
  apply hne
  rw [hs, h, ← h6]
  rfl
/-- other cells behind the first 84 characters are seen -/
theorem text_tail (l t' : List UInt8) (_hl : l.length = 84) (h1 : t'.take 84 = l) (hne : t' ≠ sealB l) : textA t' = (zP, 5) := by
  unfold textA
  rw [if_neg]
  intro h
  apply hne
  rw [← List.take_append_drop 84 t', h, h1]
  rfl
end Go.Proofs.YtjmglbppmolipaaGreatDoor
