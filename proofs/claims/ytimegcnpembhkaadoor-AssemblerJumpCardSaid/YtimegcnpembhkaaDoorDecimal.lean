/- The plain law of decimal numerals: the number that digits spell, and back. -/
import Derived.Lib.ItoaNum
import Derived.Lib.ItoaMem
import Derived.Lib.Atoi
namespace Go.Proofs.YtimegcnpembhkaaDoor.Dec
open Go.Lib

abbrev Bts := List UInt8
def dgB (c : UInt8) : Bool := decide (48 ≤ c.toNat) && decide (c.toNat ≤ 57)
/-- the number that digits spell -/
def valD (l : Bts) : Nat := l.foldl (fun n c => 10 * n + (c.toNat - 48)) 0
theorem valD_snoc (l : Bts) (c : UInt8) : valD (l ++ [c]) = 10 * valD l + (c.toNat - 48) := by simp [valD]
theorem dgB_of (m : Nat) (h : m < 10) : dgB (UInt8.ofNat (48 + m)) = true ∧ (UInt8.ofNat (48 + m)).toNat = 48 + m := by
  have : ∀ m : Fin 10, dgB (UInt8.ofNat (48 + m.val)) = true ∧ (UInt8.ofNat (48 + m.val)).toNat = 48 + m.val := by decide +kernel
  exact this ⟨m, h⟩
theorem dgB_iff (c : UInt8) : dgB c = true ↔ 48 ≤ c.toNat ∧ c.toNat ≤ 57 := by simp [dgB]
theorem dec_small {n : Nat} (h : n < 10) : decDigits n = [UInt8.ofNat (48 + n)] := by rw [decDigits, dif_pos h]
theorem dec_big {n : Nat} (h : ¬ n < 10) : decDigits n = decDigits (n / 10) ++ [UInt8.ofNat (48 + n % 10)] := by rw [decDigits, dif_neg h]
theorem dec_dig (n : Nat) : ∀ c ∈ decDigits n, dgB c = true := by
  induction n using Nat.strongRecOn with
  | _ n ih =>
    intro c hc
    by_cases h : n < 10
    · rw [dec_small h] at hc
      obtain rfl : c = UInt8.ofNat (48 + n) := by simpa using hc
      exact (dgB_of n h).1
    · rw [dec_big h, List.mem_append] at hc
      rcases hc with hc | hc
      · exact ih _ (by omega) c hc
      · obtain rfl : c = UInt8.ofNat (48 + n % 10) := by simpa using hc
        exact (dgB_of _ (by omega)).1
theorem val_dec (n : Nat) : valD (decDigits n) = n := by
  induction n using Nat.strongRecOn with
  | _ n ih =>
    by_cases h : n < 10
    · rw [dec_small h]
      simp only [valD, List.foldl_cons, List.foldl_nil]
      rw [(dgB_of n h).2]
      omega
    · rw [dec_big h, valD_snoc, ih _ (by omega), (dgB_of (n % 10) (by omega)).2]
      omega
theorem dec_ne (n : Nat) : decDigits n ≠ [] := by
  by_cases h : n < 10
  · rw [dec_small h]; simp
  · rw [dec_big h]; simp
/-- the first digit of a number from 1 on is not 0 -/
theorem dec_head (n : Nat) (h1 : 1 ≤ n) : ∃ c r, decDigits n = c :: r ∧ c ≠ 48 := by
  induction n using Nat.strongRecOn with
  | _ n ih =>
    by_cases h : n < 10
    · refine ⟨UInt8.ofNat (48 + n), [], dec_small h, fun e => ?_⟩
      have := (dgB_of n h).2
      rw [e] at this
      have h48 : (48 : UInt8).toNat = 48 := rfl
      omega
    · obtain ⟨c, r, hc, hne⟩ := ih (n / 10) (by omega) (by omega)
      exact ⟨c, r ++ [UInt8.ofNat (48 + n % 10)], by rw [dec_big h, hc]; rfl, hne⟩
theorem valD_pos (c : UInt8) (r : Bts) (hd : dgB c = true) (hc : c ≠ 48) : 1 ≤ valD (c :: r) := by
  have key : ∀ (r : Bts) (a : Nat), 1 ≤ a → 1 ≤ r.foldl (fun n c => 10 * n + (c.toNat - 48)) a := by
    intro r
    induction r with
    | nil => intro a h; exact h
    | cons x r ih => intro a h; rw [List.foldl_cons]; exact ih _ (by omega)
  unfold valD
  rw [List.foldl_cons]
  refine key r _ ?_
  have h1 := (dgB_iff c).1 hd
  have h2 : c.toNat ≠ 48 := fun e => hc (UInt8.toNat_inj.1 (by rw [e]; rfl))
  omega
theorem digit_back (c : UInt8) (hd : dgB c = true) : UInt8.ofNat (48 + (c.toNat - 48)) = c := by
  have h1 := (dgB_iff c).1 hd
  rw [show 48 + (c.toNat - 48) = c.toNat by omega]
  simp
/-- digits without a leading 0 are the numeral of their number -/
theorem dec_val (k : Nat) : ∀ (c : UInt8) (r : Bts), r.length = k → (∀ x ∈ c :: r, dgB x = true) → c ≠ 48 → decDigits (valD (c :: r)) = c :: r := by
  induction k with
  | zero =>
    intro c r hk hd hc
    obtain rfl : r = [] := List.eq_nil_of_length_eq_zero hk
    have h1 := hd c (by simp)
    have h2 := (dgB_iff c).1 h1
    simp only [valD, List.foldl_cons, List.foldl_nil]
    rw [dec_small (by omega), show 10 * 0 + (c.toNat - 48) = c.toNat - 48 by omega, digit_back c h1]
  | succ k ih =>
    intro c r hk hd hc
    obtain ⟨q, d, rfl⟩ : ∃ q d, r = q ++ [d] := ⟨r.dropLast, r.getLast (by intro e; rw [e] at hk; simp at hk), (List.dropLast_concat_getLast _).symm⟩
    have hq : q.length = k := by simpa using hk
    have hdd := hd d (by simp)
    have h2 := (dgB_iff d).1 hdd
    have hpos := valD_pos c q (hd c (by simp)) hc
    have e : c :: (q ++ [d]) = (c :: q) ++ [d] := rfl
    rw [e, valD_snoc, dec_big (by omega)]
    rw [show (10 * valD (c :: q) + (d.toNat - 48)) / 10 = valD (c :: q) by omega, show (10 * valD (c :: q) + (d.toNat - 48)) % 10 = d.toNat - 48 by omega]
    rw [ih c q hq (fun x hx => hd x (by simp at hx ⊢; rcases hx with h | h <;> simp [h])) hc, digit_back d hdd]
theorem dec_len {n k : Nat} (h : n < 10 ^ (k + 1)) : (decDigits n).length ≤ k + 1 := by
  induction k generalizing n with
  | zero => rw [dec_small (by simpa using h)]; simp
  | succ k ih =>
    by_cases hn : n < 10
    · rw [dec_small hn]; simp
    · rw [dec_big hn, List.length_append, List.length_singleton]
      have := ih (n := n / 10) (by rw [Nat.pow_succ] at h; omega)
      omega
theorem valD_lt (l : Bts) (hd : ∀ x ∈ l, dgB x = true) : valD l < 10 ^ l.length := by
  have key : ∀ (k : Nat) (l : Bts), l.length = k → (∀ x ∈ l, dgB x = true) → valD l < 10 ^ k := by
    intro k
    induction k with
    | zero => intro l hl _; obtain rfl : l = [] := List.eq_nil_of_length_eq_zero hl; decide
    | succ k ih =>
      intro l hk hd
      obtain ⟨q, d, rfl⟩ : ∃ q d, l = q ++ [d] := ⟨l.dropLast, l.getLast (by intro e; rw [e] at hk; simp at hk), (List.dropLast_concat_getLast _).symm⟩
      have h1 := ih q (by simpa using hk) (fun x hx => hd x (by simp [hx]))
      have h2 := (dgB_iff d).1 (hd d (by simp))
      rw [valD_snoc, Nat.pow_succ]
      omega
  exact key _ l rfl hd
/-- the library's reading of digits -/
theorem decFrom_val (l : Bts) (hd : ∀ x ∈ l, dgB x = true) : ∀ a, decFrom a l = some (l.foldl (fun n c => 10 * n + (c.toNat - 48)) a) := by
  induction l with
  | nil => intro a; rfl
  | cons c r ih =>
    intro a
    have h1 := (dgB_iff c).1 (hd c (by simp))
    unfold decFrom
    have : digitVal c = some (c.toNat - 48) := by unfold digitVal; rw [if_pos h1]
    rw [this]
    simp only
    rw [ih (fun x hx => hd x (by simp [hx]))]
    simp only [List.foldl_cons]
    rw [Nat.mul_comm]
theorem decFrom_digits (l : Bts) : ∀ (a m : Nat), decFrom a l = some m → ∀ x ∈ l, dgB x = true := by
  induction l with
  | nil => intro _ _ _ x hx; cases hx
  | cons c r ih =>
    intro a m h x hx
    unfold decFrom at h
    cases hc : digitVal c with
    | none => rw [hc] at h; cases h
    | some d =>
      rw [hc] at h
      simp only at h
      rcases List.mem_cons.1 hx with rfl | hx
      · unfold digitVal at hc
        split at hc
        · rename_i h2; exact (dgB_iff _).2 h2
        · cases hc
      · exact ih _ _ h x hx
theorem atoi_dec (n : Nat) : Lib.atoi (decDigits n) = some (n : Int) := by
  cases hc : decDigits n with
  | nil => exact absurd hc (dec_ne n)
  | cons c r =>
    have hd := dec_dig n
    rw [hc] at hd
    have h1 := (dgB_iff c).1 (hd c (by simp))
    unfold atoi
    have n45 : (c == 45) = false := by rw [beq_eq_false_iff_ne]; intro e; rw [e] at h1; exact absurd h1.1 (by decide)
    have n43 : (c == 43) = false := by rw [beq_eq_false_iff_ne]; intro e; rw [e] at h1; exact absurd h1.1 (by decide)
    simp only
    rw [n45, n43]
    simp only [Bool.false_eq_true, if_false]
    unfold decNat
    rw [if_neg (by simp), decFrom_val _ hd]
    have hv := val_dec n
    rw [hc] at hv
    unfold valD at hv
    rw [hv]
    rfl
end Go.Proofs.YtimegcnpembhkaaDoor.Dec
