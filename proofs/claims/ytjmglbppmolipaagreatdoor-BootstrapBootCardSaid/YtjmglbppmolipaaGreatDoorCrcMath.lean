/- The plain mathematics of the CRC register: doubling is additive and injective, processing a string is additive, products are powers of doubling. No program in sight. -/
import Derived.WalkKit
namespace Go.Proofs.YtjmglbppmolipaaGreatDoor.Crc

def dbl (x : BitVec 32) : BitVec 32 := if x.getLsbD 31 then (x <<< 1) ^^^ 0x04c11db7#32 else x <<< 1

def dbls : Nat → BitVec 32 → BitVec 32
  | 0, x => x
  | n + 1, x => dbls n (dbl x)

def upd1 (r : BitVec 32) (b : UInt8) : BitVec 32 := dbls 8 (r ^^^ (BitVec.ofNat 32 b.toNat <<< 24))
def upd (r : BitVec 32) (l : List UInt8) : BitVec 32 := l.foldl upd1 r

/-- the product after the highest m bits of b -/
def prodTo (a b : BitVec 32) : Nat → BitVec 32
  | 0 => 0#32
  | m + 1 => if b.getLsbD (31 - m) then dbl (prodTo a b m) ^^^ a else dbl (prodTo a b m)
def prod (a b : BitVec 32) : BitVec 32 := prodTo a b 32

def ini : BitVec 32 := 0xffffffff#32

/-! ### doubling -/
theorem dbl_eq (x : BitVec 32) : dbl x = (x <<< 1) ^^^ (if x.getLsbD 31 then 0x04c11db7#32 else 0#32) := by
  unfold dbl; split <;> simp

theorem xor4 (a b c d : BitVec 32) : (a ^^^ b) ^^^ (c ^^^ d) = (a ^^^ c) ^^^ (b ^^^ d) := by
  ac_rfl

theorem dbl_xor (x y : BitVec 32) : dbl (x ^^^ y) = dbl x ^^^ dbl y := by
  rw [dbl_eq, dbl_eq x, dbl_eq y, xor4, BitVec.shiftLeft_xor_distrib]
  congr 1
  rw [BitVec.getLsbD_xor]
  cases x.getLsbD 31 <;> cases y.getLsbD 31 <;> simp

theorem dbl_zero : dbl 0#32 = 0#32 := by decide

theorem dbl_eq_zero (x : BitVec 32) (h : dbl x = 0#32) : x = 0#32 := by
  unfold dbl at h
  split at h
  · exfalso
    have h0 := congrArg (fun v : BitVec 32 => v.getLsbD 0) h
    simp at h0
  · rename_i hb
    have hb' : x.toNat < 2147483648 := by
      rw [BitVec.getLsbD, Nat.testBit] at hb
      simp [Nat.shiftRight_eq_div_pow] at hb
      have := x.isLt
      omega
    have h1 := congrArg BitVec.toNat h
    simp [BitVec.toNat_shiftLeft, Nat.shiftLeft_eq] at h1
    apply BitVec.eq_of_toNat_eq
    simp
    omega

theorem dbls_xor (n : Nat) : ∀ x y : BitVec 32, dbls n (x ^^^ y) = dbls n x ^^^ dbls n y := by
  induction n with
  | zero => intro x y; rfl
  | succ n ih => intro x y; simp only [dbls]; rw [dbl_xor, ih]

theorem dbls_zero (n : Nat) : dbls n 0#32 = 0#32 := by
  induction n with
  | zero => rfl
  | succ n ih => simp only [dbls]; rw [dbl_zero, ih]

theorem dbls_add (m n : Nat) : ∀ x, dbls (m + n) x = dbls n (dbls m x) := by
  induction m with
  | zero => intro x; simp [dbls]
  | succ m ih => intro x; rw [Nat.succ_add]; simp only [dbls]; rw [ih]

theorem dbls_succ (n : Nat) (x : BitVec 32) : dbls (n + 1) x = dbl (dbls n x) := by
  rw [dbls_add]; rfl

theorem dbls_eq_zero (n : Nat) : ∀ x, dbls n x = 0#32 → x = 0#32 := by
  induction n with
  | zero => intro x h; exact h
  | succ n ih => intro x h; exact dbl_eq_zero x (ih _ h)

theorem xor_eq_zero (x y : BitVec 32) (h : x ^^^ y = 0#32) : x = y := by
  have : (x ^^^ y) ^^^ y = 0#32 ^^^ y := by rw [h]
  rw [BitVec.xor_assoc, BitVec.xor_self] at this
  simpa using this

theorem dbls_inj (n : Nat) (x y : BitVec 32) (h : dbls n x = dbls n y) : x = y := by
  apply xor_eq_zero
  apply dbls_eq_zero n
  rw [dbls_xor, h, BitVec.xor_self]

/-! ### a map that is additive is known by its values at the 32 bits -/
def part (x : BitVec 32) : Nat → BitVec 32
  | 0 => 0#32
  | n + 1 => part x n ^^^ (if x.getLsbD n then 1#32 <<< n else 0#32)

theorem part_bit (x : BitVec 32) (n : Nat) : ∀ j, j < 32 → (part x n).getLsbD j = (decide (j < n) && x.getLsbD j) := by
  induction n with
  | zero => intro j _; simp [part]
  | succ n ih =>
    intro j hj
    rw [part, BitVec.getLsbD_xor, ih j hj]
    by_cases h : x.getLsbD n = true
    · rw [if_pos h]
      rw [BitVec.getLsbD_shiftLeft]
      rcases Nat.lt_trichotomy j n with h1 | h1 | h1
      · have e1 : decide (j < n) = true := by simpa using h1
        have e2 : decide (j < n + 1) = true := by simp; omega
        simp [e1, e2]
      · subst h1
        simp [h, hj]
      · have e1 : decide (j < n) = false := by simp; omega
        have e2 : decide (j < n + 1) = false := by simp; omega
        have e3 : (1#32).getLsbD (j - n) = false := by
          have : j - n ≠ 0 := by omega
          simp [BitVec.getLsbD_one]; omega
        simp [e1, e2, e3]
    · rw [if_neg h]
      have h' : x.getLsbD n = false := by simpa using h
      rcases Nat.lt_trichotomy j n with h1 | h1 | h1
      · have e1 : decide (j < n) = true := by simpa using h1
        have e2 : decide (j < n + 1) = true := by simp; omega
        simp [e1, e2]
      · subst h1
        simp [h']
      · have e1 : decide (j < n) = false := by simp; omega
        have e2 : decide (j < n + 1) = false := by simp; omega
        simp [e1, e2]

theorem part_all (x : BitVec 32) : part x 32 = x := by
  apply BitVec.eq_of_getLsbD_eq
  intro i hi
  rw [part_bit x 32 i hi]
  simp [hi]

theorem additive_zero (f : BitVec 32 → BitVec 32) (hf : ∀ x y, f (x ^^^ y) = f x ^^^ f y) : f 0#32 = 0#32 := by
  have := hf 0#32 0#32
  rw [BitVec.xor_self, BitVec.xor_self] at this
  exact this

theorem additive_ext (f g : BitVec 32 → BitVec 32) (hf : ∀ x y, f (x ^^^ y) = f x ^^^ f y) (hg : ∀ x y, g (x ^^^ y) = g x ^^^ g y)
    (h : ∀ i, i < 32 → f (1#32 <<< i) = g (1#32 <<< i)) (x : BitVec 32) : f x = g x := by
  rw [← part_all x]
  have key : ∀ n, n ≤ 32 → f (part x n) = g (part x n) := by
    intro n
    induction n with
    | zero => intro _; rw [part, additive_zero f hf, additive_zero g hg]
    | succ n ih =>
      intro hn
      rw [part, hf, hg, ih (by omega)]
      congr 1
      split
      · exact h n (by omega)
      · rw [additive_zero f hf, additive_zero g hg]
  exact key 32 (Nat.le_refl _)

/-! ### processing strings -/
theorem upd_nil (r : BitVec 32) : upd r [] = r := rfl
theorem upd_cons (r : BitVec 32) (b : UInt8) (l : List UInt8) : upd r (b :: l) = upd (upd1 r b) l := rfl
theorem upd_append (r : BitVec 32) (l m : List UInt8) : upd r (l ++ m) = upd (upd r l) m := by simp [upd]
theorem upd_snoc (r : BitVec 32) (l : List UInt8) (b : UInt8) : upd r (l ++ [b]) = upd1 (upd r l) b := by simp [upd]

theorem upd1_split (r s : BitVec 32) (b : UInt8) : upd1 (r ^^^ s) b = dbls 8 r ^^^ upd1 s b := by
  unfold upd1; rw [BitVec.xor_assoc, dbls_xor]

theorem upd_split (l : List UInt8) : ∀ r s : BitVec 32, upd (r ^^^ s) l = dbls (8 * l.length) r ^^^ upd s l := by
  induction l with
  | nil => intro r s; rfl
  | cons b l ih =>
    intro r s
    rw [upd_cons, upd1_split, ih, upd_cons]
    rw [← dbls_add, List.length_cons, show 8 + 8 * l.length = 8 * (l.length + 1) by omega]

theorem upd_zero (l : List UInt8) (r : BitVec 32) : upd r l = dbls (8 * l.length) r ^^^ upd 0#32 l := by
  have := upd_split l r 0#32
  simpa using this

theorem upd_inj (l : List UInt8) (r s : BitVec 32) (h : upd r l = upd s l) : r = s := by
  rw [upd_zero, upd_zero l s] at h
  apply dbls_inj (8 * l.length)
  have : (dbls (8 * l.length) r ^^^ upd 0#32 l) ^^^ upd 0#32 l = (dbls (8 * l.length) s ^^^ upd 0#32 l) ^^^ upd 0#32 l := by rw [h]
  simpa [BitVec.xor_assoc] using this

theorem upd_zeros (n : Nat) (r : BitVec 32) : upd r (List.replicate n 0) = dbls (8 * n) r := by
  induction n generalizing r with
  | zero => rfl
  | succ n ih =>
    rw [List.replicate_succ, upd_cons, ih]
    have : upd1 r 0 = dbls 8 r := by simp [upd1]
    rw [this, ← dbls_add, show 8 + 8 * n = 8 * (n + 1) by omega]

def byteW (b : UInt8) : BitVec 32 := BitVec.ofNat 32 b.toNat
theorem byteW_xor (a b : UInt8) : byteW (a ^^^ b) = byteW a ^^^ byteW b := by
  unfold byteW
  apply BitVec.eq_of_toNat_eq
  have ha := a.toNat_lt
  have hb := b.toNat_lt
  have hx : a.toNat ^^^ b.toNat < 2 ^ 32 := Nat.xor_lt_two_pow (by omega) (by omega)
  simp only [BitVec.toNat_xor, BitVec.toNat_ofNat, UInt8.toNat_xor]
  rw [Nat.mod_eq_of_lt (by omega : a.toNat < 2 ^ 32), Nat.mod_eq_of_lt (by omega : b.toNat < 2 ^ 32), Nat.mod_eq_of_lt hx]

theorem upd1_xor2 (r s : BitVec 32) (a b : UInt8) : upd1 (r ^^^ s) (a ^^^ b) = upd1 r a ^^^ upd1 s b := by
  unfold upd1
  have h := byteW_xor a b
  unfold byteW at h
  rw [h, BitVec.shiftLeft_xor_distrib, xor4, dbls_xor]

theorem upd_xor2 (l m : List UInt8) (h : l.length = m.length) : ∀ r s : BitVec 32, upd (r ^^^ s) (List.zipWith (· ^^^ ·) l m) = upd r l ^^^ upd s m := by
  induction l generalizing m with
  | nil => intro r s; cases m with | nil => rfl | cons => simp at h
  | cons a l ih =>
    cases m with
    | nil => simp at h
    | cons b m =>
      intro r s
      simp only [List.zipWith_cons_cons, upd_cons, upd1_xor2]
      exact ih m (by simpa using h) _ _

/-! ### residue -/
def bytesOf (r : BitVec 32) : List UInt8 := [UInt8.ofNat (r.toNat / 16777216), UInt8.ofNat (r.toNat / 65536), UInt8.ofNat (r.toNat / 256), UInt8.ofNat r.toNat]

theorem bytes_additive (x y : BitVec 32) : upd 0#32 (bytesOf (x ^^^ y)) = upd 0#32 (bytesOf x) ^^^ upd 0#32 (bytesOf y) := by
  rw [← upd_xor2 (bytesOf x) (bytesOf y) rfl, BitVec.xor_self]
  congr 1
  simp only [bytesOf, List.zipWith_cons_cons, List.zipWith_nil_left, List.cons.injEq]
  have h : ∀ k : Nat, UInt8.ofNat ((x ^^^ y).toNat / 2 ^ k) = UInt8.ofNat (x.toNat / 2 ^ k) ^^^ UInt8.ofNat (y.toNat / 2 ^ k) := by
    intro k
    apply UInt8.toNat_inj.1
    rw [UInt8.toNat_xor]
    simp only [UInt8.toNat_ofNat', BitVec.toNat_xor]
    apply Nat.eq_of_testBit_eq
    intro i
    rw [Nat.testBit_xor, Nat.testBit_mod_two_pow, Nat.testBit_mod_two_pow, Nat.testBit_mod_two_pow, Nat.testBit_div_two_pow, Nat.testBit_div_two_pow, Nat.testBit_div_two_pow, Nat.testBit_xor]
    cases decide (i < 8) <;> simp
  exact ⟨h 24, h 16, h 8, by simp, trivial⟩

theorem upd_bytes (r : BitVec 32) : upd 0#32 (bytesOf r) = dbls 32 r := by
  refine additive_ext (fun r => upd 0#32 (bytesOf r)) (dbls 32) bytes_additive (dbls_xor 32) ?_ r
  decide +kernel

theorem upd_residue (r : BitVec 32) : upd r (bytesOf r) = 0#32 := by
  rw [upd_zero, upd_bytes]
  exact BitVec.xor_self

/-! ### products -/
theorem prodTo_xor_left (a c b : BitVec 32) (m : Nat) : prodTo (a ^^^ c) b m = prodTo a b m ^^^ prodTo c b m := by
  induction m with
  | zero => simp [prodTo]
  | succ m ih =>
    simp only [prodTo]
    rw [ih, dbl_xor]
    split
    · rw [xor4]
    · rfl

theorem prod_xor_left (a c b : BitVec 32) : prod (a ^^^ c) b = prod a b ^^^ prod c b := prodTo_xor_left a c b 32

theorem prodTo_xor_right (a b c : BitVec 32) (m : Nat) : prodTo a (b ^^^ c) m = prodTo a b m ^^^ prodTo a c m := by
  induction m with
  | zero => simp [prodTo]
  | succ m ih =>
    simp only [prodTo, BitVec.getLsbD_xor]
    rw [ih, dbl_xor]
    cases b.getLsbD (31 - m) <;> cases c.getLsbD (31 - m) <;> simp
    · ac_rfl
    · ac_rfl
    · have : ∀ u v w : BitVec 32, u ^^^ v = u ^^^ w ^^^ (v ^^^ w) := by
        intro u v w
        rw [xor4, BitVec.xor_self]; simp
      exact this _ _ _

theorem prod_xor_right (a b c : BitVec 32) : prod a (b ^^^ c) = prod a b ^^^ prod a c := prodTo_xor_right a b c 32

theorem dbl_prodTo (a b : BitVec 32) (m : Nat) : prodTo (dbl a) b m = dbl (prodTo a b m) := by
  induction m with
  | zero => simp [prodTo, dbl_zero]
  | succ m ih =>
    simp only [prodTo, ih]
    split
    · rw [dbl_xor]
    · rfl

theorem prod_dbl_left (a b : BitVec 32) : prod (dbl a) b = dbl (prod a b) := dbl_prodTo a b 32

theorem prod_dbls_left (n : Nat) (b : BitVec 32) : ∀ a, prod (dbls n a) b = dbls n (prod a b) := by
  induction n with
  | zero => intro a; rfl
  | succ n ih => intro a; simp only [dbls]; rw [ih, prod_dbl_left]

theorem prodTo_bit (a : BitVec 32) (i : Nat) (hi : i < 32) (m : Nat) (hm : m ≤ 32) : prodTo a (1#32 <<< i) m = if 32 - i ≤ m then dbls (m - (32 - i)) a else 0#32 := by
  induction m with
  | zero => rw [if_neg (by omega)]; rfl
  | succ m ih =>
    simp only [prodTo, ih (by omega)]
    have hb : (1#32 <<< i).getLsbD (31 - m) = decide (31 - m = i) := by
      simp [BitVec.getLsbD_shiftLeft, BitVec.getLsbD_one]
      by_cases h : 31 - m = i
      · simp [h]; omega
      · simp [h]; omega
    rw [hb]
    by_cases h1 : 32 - i ≤ m
    · rw [if_pos h1, if_pos (by omega : 32 - i ≤ m + 1)]
      by_cases h2 : 31 - m = i
      · exfalso; omega
      · simp only [h2, decide_false, Bool.false_eq_true, if_false]
        rw [← dbls_succ]
        congr 1
        omega
    · rw [if_neg h1]
      by_cases h2 : 31 - m = i
      · rw [if_pos (by omega : 32 - i ≤ m + 1)]
        simp only [h2, decide_true, if_true, dbl_zero, BitVec.zero_xor]
        rw [show m + 1 - (32 - i) = 0 by omega]
        rfl
      · rw [if_neg (by omega : ¬ 32 - i ≤ m + 1)]
        simp [h2, dbl_zero]

theorem prod_bit (a : BitVec 32) (i : Nat) (hi : i < 32) : prod a (1#32 <<< i) = dbls i a := by
  unfold prod
  rw [prodTo_bit a i hi 32 (by omega), if_pos (by omega)]
  congr 1
  omega

theorem prod_poly (a : BitVec 32) : prod a 0x04c11db7#32 = dbls 32 a := by
  refine additive_ext (fun a => prod a 0x04c11db7#32) (dbls 32) (fun x y => prod_xor_left x y _) (dbls_xor 32) ?_ a
  decide +kernel

theorem prod_dbl_right (a b : BitVec 32) : prod a (dbl b) = dbl (prod a b) := by
  refine additive_ext (fun b => prod a (dbl b)) (fun b => dbl (prod a b)) (fun x y => by rw [dbl_xor, prod_xor_right]) (fun x y => by rw [prod_xor_right, dbl_xor]) ?_ b
  intro i hi
  rw [prod_bit a i hi]
  by_cases h : i = 31
  · subst h
    have : dbl (1#32 <<< 31) = 0x04c11db7#32 := by decide
    rw [this, prod_poly, ← dbls_succ]
  · have : dbl (1#32 <<< i) = 1#32 <<< (i + 1) := by
      have hall : ∀ i, i < 31 → dbl (1#32 <<< i) = 1#32 <<< (i + 1) := by decide +kernel
      exact hall i (by omega)
    rw [this, prod_bit a (i + 1) (by omega), dbls_succ]

theorem prod_dbls_right (a : BitVec 32) (n : Nat) : ∀ b, prod a (dbls n b) = dbls n (prod a b) := by
  induction n with
  | zero => intro b; rfl
  | succ n ih => intro b; simp only [dbls]; rw [ih, prod_dbl_right]

theorem prod_one (a : BitVec 32) : prod a 1#32 = a := prod_bit a 0 (by omega)
theorem one_prod (b : BitVec 32) : prod 1#32 b = b := by
  refine additive_ext (fun b => prod 1#32 b) (fun b => b) (fun x y => prod_xor_right _ x y) (fun _ _ => rfl) ?_ b
  decide +kernel

/-- x^n -/
def pw (n : Nat) : BitVec 32 := dbls n 1#32
theorem prod_pw (a : BitVec 32) (n : Nat) : prod a (pw n) = dbls n a := by rw [pw, prod_dbls_right, prod_one]
theorem pw_mul (m n : Nat) : prod (pw m) (pw n) = pw (m + n) := by rw [prod_pw, pw, pw, dbls_add]
theorem pw_8 : pw 8 = 256#32 := by decide
theorem pw_0 : pw 0 = 1#32 := rfl

/-- Combine: what it comes to -/
def comb (a b : BitVec 32) (n : Nat) : BitVec 32 := b ^^^ dbls (8 * n) (a ^^^ ini)

theorem comb_sum (s t : List UInt8) : comb (upd ini s) (upd ini t) t.length = upd ini (s ++ t) := by
  unfold comb
  rw [upd_append, upd_zero t ini, dbls_xor, upd_zero t (upd ini s)]
  generalize dbls (8 * t.length) ini = p
  generalize upd 0#32 t = q
  generalize dbls (8 * t.length) (upd ini s) = r
  have : ∀ p q r : BitVec 32, p ^^^ q ^^^ (r ^^^ p) = r ^^^ q := by
    intro p q r
    rw [BitVec.xor_comm p q, xor4, BitVec.xor_comm q r, BitVec.xor_self, BitVec.xor_zero]
  exact this p q r

theorem comb_assoc (a b c : BitVec 32) (n m : Nat) : comb (comb a b n) c m = comb a (comb b c m) (n + m) := by
  unfold comb
  rw [BitVec.xor_assoc c]
  congr 1
  rw [BitVec.xor_assoc b, BitVec.xor_comm (dbls _ _) ini, ← BitVec.xor_assoc, dbls_xor]
  congr 1
  rw [← dbls_add]
  congr 1
  omega

end Go.Proofs.YtjmglbppmolipaaGreatDoor.Crc
