/- The plain law of bursts: five bytes of a 32-bit burst, shifted by less than 8 bits, change the register. -/
import Derived.Test.YtcidjflgmhhkbaaCrcMath
namespace Go.Proofs.Ytcidjflgmhhkbaa.Crc

/-- byte i of the burst x, shifted by e bits -/
def db (x : BitVec 32) (e i : Nat) : UInt8 := UInt8.ofNat (x.toNat * 2 ^ e / 2 ^ (32 - 8 * i))
def dbs (x : BitVec 32) (e : Nat) : List UInt8 := [db x e 0, db x e 1, db x e 2, db x e 3, db x e 4]

theorem db_xor (x y : BitVec 32) (e i : Nat) : db (x ^^^ y) e i = db x e i ^^^ db y e i := by
  unfold db
  apply UInt8.toNat_inj.1
  rw [UInt8.toNat_xor]
  simp only [UInt8.toNat_ofNat', BitVec.toNat_xor]
  apply Nat.eq_of_testBit_eq
  intro j
  rw [Nat.testBit_xor, Nat.testBit_mod_two_pow, Nat.testBit_mod_two_pow, Nat.testBit_mod_two_pow, Nat.testBit_div_two_pow, Nat.testBit_div_two_pow, Nat.testBit_div_two_pow,
    Nat.testBit_mul_two_pow, Nat.testBit_mul_two_pow, Nat.testBit_mul_two_pow, Nat.testBit_xor]
  cases decide (j < 8) <;> cases decide (e ≤ j + (32 - 8 * i)) <;> simp

theorem dbs_xor (x y : BitVec 32) (e : Nat) : upd 0#32 (dbs (x ^^^ y) e) = upd 0#32 (dbs x e) ^^^ upd 0#32 (dbs y e) := by
  rw [← upd_xor2 (dbs x e) (dbs y e) rfl, BitVec.xor_self]
  congr 1
  simp only [dbs, List.zipWith_cons_cons, List.zipWith_nil_left, db_xor]

theorem burst_eq (x : BitVec 32) (e : Nat) (he : e < 9) : upd 0#32 (dbs x e) = dbls (32 + e) x := by
  refine additive_ext (fun x => upd 0#32 (dbs x e)) (dbls (32 + e)) (fun x y => dbs_xor x y e) (dbls_xor _) ?_ x
  have h : ∀ e, e < 9 → ∀ i, i < 32 → upd 0#32 (dbs (1#32 <<< i) e) = dbls (32 + e) (1#32 <<< i) := by decide +kernel
  exact h e he

theorem burst_ne (x : BitVec 32) (e : Nat) (he : e < 9) (hx : x ≠ 0#32) : upd 0#32 (dbs x e) ≠ 0#32 := by
  rw [burst_eq x e he]
  intro h
  exact hx (dbls_eq_zero _ _ h)

/-- the first i bytes from q on exchanged -/
def flip (l : List UInt8) (q : Nat) (d : Nat → UInt8) (i : Nat) : List UInt8 := l.mapIdx fun j x => if q ≤ j ∧ j < q + i then x ^^^ d (j - q) else x

theorem flip_length (l : List UInt8) (q : Nat) (d : Nat → UInt8) (i : Nat) : (flip l q d i).length = l.length := by simp [flip]
theorem flip_get (l : List UInt8) (q : Nat) (d : Nat → UInt8) (i j : Nat) (h : j < l.length) : (flip l q d i)[j]'(by rw [flip_length]; exact h) = if q ≤ j ∧ j < q + i then l[j] ^^^ d (j - q) else l[j] := by
  simp [flip]
theorem flip_zero (l : List UInt8) (q : Nat) (d : Nat → UInt8) : flip l q d 0 = l := by
  apply List.ext_getElem (by rw [flip_length])
  intro j h1 h2
  rw [flip_get l q d 0 j h2, if_neg (by omega)]

theorem flip_xor (l : List UInt8) (q : Nat) (x : BitVec 32) (e : Nat) (h : q + 5 ≤ l.length) :
    List.zipWith (· ^^^ ·) (flip l q (db x e) 5) l = List.replicate q 0 ++ dbs x e ++ List.replicate (l.length - q - 5) 0 := by
  have hl : (List.zipWith (· ^^^ ·) (flip l q (db x e) 5) l).length = (List.replicate q 0 ++ dbs x e ++ List.replicate (l.length - q - 5) 0).length := by
    simp [flip_length, dbs]; omega
  apply List.ext_getElem hl
  intro j h1 h2
  have hj : j < l.length := by simp [flip_length] at h1; exact h1
  rw [List.getElem_zipWith, flip_get l q _ 5 j hj]
  by_cases h3 : q ≤ j ∧ j < q + 5
  · rw [if_pos h3]
    rw [List.getElem_append_left (by simp [dbs]; omega), List.getElem_append_right (by simp; omega)]
    have e1 : ∀ a b : UInt8, a ^^^ b ^^^ a = b := by
      intro a b
      rw [UInt8.xor_comm a b, UInt8.xor_assoc, UInt8.xor_self, UInt8.xor_zero]
    rw [e1]
    obtain ⟨k, hk, rfl⟩ : ∃ k, k < 5 ∧ j = q + k := ⟨j - q, by omega, by omega⟩
    simp only [List.length_replicate, Nat.add_sub_cancel_left]
    match k, hk with
    | 0, _ => rfl
    | 1, _ => rfl
    | 2, _ => rfl
    | 3, _ => rfl
    | 4, _ => rfl
  · rw [if_neg h3, UInt8.xor_self]
    by_cases h4 : j < q
    · rw [List.getElem_append_left (by simp [dbs]; omega), List.getElem_append_left (by simp; omega)]
      simp
    · rw [List.getElem_append_right (by simp [dbs]; omega)]
      simp

theorem flip_ne (l : List UInt8) (q : Nat) (x : BitVec 32) (e : Nat) (h : q + 5 ≤ l.length) (he : e < 9) (hx : x ≠ 0#32) (r : BitVec 32) :
    upd r (flip l q (db x e) 5) ≠ upd r l := by
  intro heq
  have h1 := upd_xor2 (flip l q (db x e) 5) l (flip_length _ _ _ _) r r
  rw [heq, BitVec.xor_self, BitVec.xor_self, flip_xor l q x e h, upd_append, upd_append, upd_zeros, upd_zeros, dbls_zero] at h1
  exact burst_ne x e he hx (dbls_eq_zero _ _ h1)

end Go.Proofs.Ytcidjflgmhhkbaa.Crc
