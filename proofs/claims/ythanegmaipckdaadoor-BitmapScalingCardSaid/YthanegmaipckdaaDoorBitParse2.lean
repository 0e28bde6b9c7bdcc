/- The plain law of expansion, second part: reading a run digit by digit. (Layer 52) -/
import Derived.Test.YthanegmaipckdaaDoorBitParse
namespace Go.Proofs.YthanegmaipckdaaDoor
open Go.Lib Dec

/-- d digits have been read from place i, their number is v -/
def DigS (L : Bytes) (i d v : Nat) : Prop := v = valD ((L.drop i).take d) ∧ (∀ x ∈ (L.drop i).take d, dgB x = true) ∧ (∀ x r, (L.drop i).take d = x :: r → x ≠ 48)
theorem DigS.zero (L : Bytes) (i : Nat) : DigS L i 0 0 := by
  unfold DigS
  rw [List.take_zero]
  exact ⟨rfl, fun x hx => (by cases hx), fun x r h => (by cases h)⟩
theorem take_at {L : Bytes} {i d j : Nat} {c : UInt8} (hj : j = i + d) (hc : L[j]? = some c) : (L.drop i).take (d + 1) = (L.drop i).take d ++ [c] := by
  subst hj
  have h1 : (L.drop i)[d]? = some c := by rw [List.getElem?_drop]; exact hc
  rw [List.take_add_one, h1]; rfl
theorem drop_at {L : Bytes} {j : Nat} {c : UInt8} (hc : L[j]? = some c) : L.drop j = c :: L.drop (j + 1) := by
  obtain ⟨h, e⟩ := List.getElem?_eq_some_iff.1 hc
  rw [List.drop_eq_getElem_cons h, e]
theorem split_at {L : Bytes} {i d j : Nat} {c : UInt8} (hj : j = i + d) (hc : L[j]? = some c) : L.drop i = (L.drop i).take d ++ c :: L.drop (j + 1) := by
  rw [← drop_at hc, hj, ← List.drop_drop, List.take_append_drop]
theorem len_at {L : Bytes} {i d j : Nat} (hj : j = i + d) (h : j ≤ L.length) : ((L.drop i).take d).length = d := by
  rw [List.length_take, List.length_drop]; omega
theorem DigS.step {L : Bytes} {i d v j : Nat} {c : UInt8} (h : DigS L i d v) (hj : j = i + d) (hc : L[j]? = some c) (hd : dgB c = true) (h0 : d = 0 → c ≠ 48) : DigS L i (d + 1) (10 * v + (c.toNat - 48)) := by
  obtain ⟨h1, h2, h3⟩ := h
  have e := take_at hj hc
  refine ⟨by rw [e, valD_snoc, h1], ?_, ?_⟩
  · intro x hx
    rw [e, List.mem_append] at hx
    rcases hx with hx | hx
    · exact h2 x hx
    · obtain rfl : x = c := by simpa using hx
      exact hd
  · intro x r hx
    rw [e] at hx
    cases hp : (L.drop i).take d with
    | nil =>
      rw [hp] at hx
      have hlt := (List.getElem?_eq_some_iff.1 hc).1
      have hl := len_at hj (L := L) (by omega)
      rw [hp] at hl
      simp only [List.nil_append, List.cons.injEq] at hx
      rw [← hx.1]
      exact h0 (by simpa using hl.symm)
    | cons y t =>
      rw [hp] at hx
      simp only [List.cons_append, List.cons.injEq] at hx
      rw [← hx.1]
      exact h3 y t hp
theorem DigS.bound {L : Bytes} {i d v : Nat} (h : DigS L i d v) (hd : d ≤ 5) : v ≤ 99999 := by
  have h1 := valD_lt _ h.2.1
  have h2 : ((L.drop i).take d).length ≤ 5 := by rw [List.length_take]; omega
  have h3 : 10 ^ ((L.drop i).take d).length ≤ 10 ^ 5 := Nat.pow_le_pow_right (by decide) h2
  rw [h.1]
  omega
theorem head_zero {L : Bytes} {i : Nat} (hc : L[i]? = some 48) : headR (L.drop i) = none := by
  unfold headR
  rw [drop_at hc, List.takeWhile_cons, if_pos (by decide), List.dropWhile_cons, if_pos (by decide)]
  cases (L.drop (i + 1)).dropWhile dgB with
  | nil => rfl
  | cons c r => simp
theorem tw_long (p q : Bytes) (c : UInt8) (hp : ∀ x ∈ p, dgB x = true) (hc : dgB c = true) : p.length + 1 ≤ ((p ++ c :: q).takeWhile dgB).length := by
  induction p with
  | nil => simp [hc]
  | cons a p ih =>
    have := ih (fun x hx => hp x (by simp [hx]))
    simp [hp a (by simp)] at this ⊢
    omega
theorem head_long {L : Bytes} {i v j : Nat} {c : UInt8} (h : DigS L i 5 v) (hj : j = i + 5) (hc : L[j]? = some c) (hd : dgB c = true) : headR (L.drop i) = none := by
  have hlt := (List.getElem?_eq_some_iff.1 hc).1
  have hl := len_at hj (L := L) (by omega)
  have hw := tw_long ((L.drop i).take 5) (L.drop (j + 1)) c h.2.1 hd
  rw [← split_at hj hc, hl] at hw
  unfold headR
  cases hp : (L.drop i).takeWhile dgB with
  | nil => rfl
  | cons x p =>
    rw [hp] at hw
    cases (L.drop i).dropWhile dgB with
    | nil => rfl
    | cons y r =>
      simp only
      rw [if_neg]
      rintro ⟨_, h5, _⟩
      simp at hw
      omega
theorem head_end {L : Bytes} {i d v j : Nat} (h : DigS L i d v) (hj : j = i + d) (he : L.length ≤ j) : headR (L.drop i) = none := by
  have e : (L.drop i).take d = L.drop i := List.take_of_length_le (by rw [List.length_drop]; omega)
  have h2 := h.2.1
  rw [e] at h2
  have hdw : (L.drop i).dropWhile dgB = [] := by
    generalize L.drop i = l at h2
    induction l with
    | nil => rfl
    | cons a l ih => rw [List.dropWhile_cons, if_pos (h2 a (by simp))]; exact ih (fun x hx => h2 x (by simp [hx]))
  unfold headR
  rw [hdw]
  cases (L.drop i).takeWhile dgB <;> rfl
theorem head_at {L : Bytes} {i d v j : Nat} {c : UInt8} (h : DigS L i d v) (hj : j = i + d) (hc : L[j]? = some c) (hd : dgB c = false) :
    (L.drop i).takeWhile dgB = (L.drop i).take d ∧ (L.drop i).dropWhile dgB = c :: L.drop (j + 1) := by
  have := takeWhile_app dgB ((L.drop i).take d) c (L.drop (j + 1)) h.2.1 hd
  rw [← split_at hj hc] at this
  exact this
theorem head_none0 {L : Bytes} {i v j : Nat} {c : UInt8} (h : DigS L i 0 v) (hj : j = i + 0) (hc : L[j]? = some c) (hd : dgB c = false) : headR (L.drop i) = none := by
  obtain ⟨h1, h2⟩ := head_at h hj hc hd
  unfold headR
  rw [h1, h2, List.take_zero]
theorem head_px {L : Bytes} {i d v j : Nat} {c : UInt8} (h : DigS L i d v) (hj : j = i + d) (hc : L[j]? = some c) (hd : dgB c = false) (hp : isPx c = false) : headR (L.drop i) = none := by
  obtain ⟨h1, h2⟩ := head_at h hj hc hd
  unfold headR
  rw [h1, h2]
  cases (L.drop i).take d with
  | nil => rfl
  | cons x p => simp [hp]
theorem head_yes {L : Bytes} {i d v j : Nat} {c : UInt8} (h : DigS L i d v) (hj : j = i + d) (hc : L[j]? = some c) (hd : dgB c = false) (hp : isPx c = true) (h0 : 1 ≤ d) (h5 : d ≤ 5) : headR (L.drop i) = some (v, c, L.drop (j + 1)) := by
  obtain ⟨h1, h2⟩ := head_at h hj hc hd
  have hlt := (List.getElem?_eq_some_iff.1 hc).1
  have hl := len_at hj (L := L) (by omega)
  unfold headR
  rw [h1, h2]
  obtain ⟨g1, g2, g3⟩ := h
  cases hq : (L.drop i).take d with
  | nil => rw [hq] at hl; simp at hl; omega
  | cons x p =>
    rw [hq] at hl g1
    simp only
    rw [if_pos ⟨g3 x p hq, by simp at hl; omega, hp⟩, g1]

/-- what has been read, and what is left -/
def ReadS (L : Bytes) (pre : List (Nat × UInt8)) (i : Nat) (last : UInt8) : Prop := parseR 0 L = (parseR last (L.drop i)).map (pre ++ ·)
theorem ReadS.start (L : Bytes) : ReadS L [] 0 0 := by unfold ReadS; cases h : parseR 0 L <;> simp [h]
theorem ReadS.stop {L : Bytes} {pre : List (Nat × UInt8)} {i : Nat} {last : UInt8} (h : ReadS L pre i last) (hi : i < L.length) (hn : headR (L.drop i) = none) : parseR 0 L = none := by
  rw [h, parseR_none (by intro e; have := congrArg List.length e; rw [List.length_drop] at this; simp at this; omega) hn]; rfl
theorem ReadS.same {L : Bytes} {pre : List (Nat × UInt8)} {i n : Nat} {last : UInt8} {r : Bytes} (h : ReadS L pre i last) (hn : headR (L.drop i) = some (n, last, r)) : parseR 0 L = none := by
  rw [h, parseR_same hn]; rfl
theorem ReadS.next {L : Bytes} {pre : List (Nat × UInt8)} {i n j : Nat} {last c : UInt8} (h : ReadS L pre i last) (hn : headR (L.drop i) = some (n, c, L.drop j)) (hc : c ≠ last) : ReadS L (pre ++ [(n, c)]) j c := by
  unfold ReadS
  rw [h, parseR_some hn hc]
  cases parseR c (L.drop j) <;> simp
theorem ReadS.done {L : Bytes} {pre : List (Nat × UInt8)} {i : Nat} {last : UInt8} (h : ReadS L pre i last) (hi : L.length ≤ i) : parseR 0 L = some pre := by
  rw [h, List.drop_of_length_le hi, parseR_nil]; simp

/-- where the digits of a written run stand -/
theorem enc_drop {L : Bytes} {i : Nat} {n : Nat} {c : UInt8} {rest : List (Nat × UInt8)} (h : L.drop i = encB ((n, c) :: rest)) : L.drop i = decDigits n ++ c :: encB rest := by
  rw [h, encB_cons]; simp
theorem enc_digit {L : Bytes} {i d j : Nat} {n : Nat} {c : UInt8} {rest : List (Nat × UInt8)} (h : L.drop i = decDigits n ++ c :: encB rest) (hj : j = i + d) (hd : d < (decDigits n).length) :
    ∃ x, L[j]? = some x ∧ dgB x = true ∧ valD ((decDigits n).take (d + 1)) = 10 * valD ((decDigits n).take d) + (x.toNat - 48) := by
  refine ⟨(decDigits n)[d], ?_, dec_dig n _ (List.getElem_mem hd), ?_⟩
  · have : L[j]? = (L.drop i)[d]? := by rw [List.getElem?_drop, hj]
    rw [this, h, List.getElem?_append_left hd, List.getElem?_eq_getElem hd]
  · rw [List.take_succ_eq_append_getElem hd, valD_snoc]
theorem enc_last {L : Bytes} {i j : Nat} {n : Nat} {c : UInt8} {rest : List (Nat × UInt8)} (h : L.drop i = decDigits n ++ c :: encB rest) (hj : j = i + (decDigits n).length) : L[j]? = some c ∧ L.drop (j + 1) = encB rest := by
  have h1 : L.drop j = c :: encB rest := by
    rw [hj, ← List.drop_drop, h, List.drop_left]
  constructor
  · have : L[j]? = (L.drop j)[0]? := by rw [List.getElem?_drop]; rfl
    rw [this, h1]; rfl
  · rw [← List.drop_drop, h1]; rfl
theorem val_take_le (n d : Nat) (hn : n ≤ 99999) : valD ((decDigits n).take d) ≤ 99999 := by
  have h1 := valD_lt ((decDigits n).take d) (fun x hx => dec_dig n x (List.mem_of_mem_take hx))
  have h2 : ((decDigits n).take d).length ≤ 5 := by
    have := dec_len (n := n) (k := 4) (by omega)
    rw [List.length_take]; omega
  have h3 : 10 ^ ((decDigits n).take d).length ≤ 10 ^ 5 := Nat.pow_le_pow_right (by decide) h2
  omega
theorem totR_le : ∀ rs : List (Nat × UInt8), (∀ x ∈ rs, x.1 ≤ 99999) → totR rs ≤ 99999 * rs.length := by
  intro rs
  induction rs with
  | nil => intro _; exact Nat.le_refl _
  | cons x r ih =>
    intro h
    have h1 := ih (fun y hy => h y (by simp [hy]))
    have h2 := h x (by simp)
    unfold totR at h1 ⊢
    rw [cellsR_cons, List.length_append, List.length_replicate, List.length_cons]
    omega
theorem chunk_len_le (w : Nat) (rs pre rest : List (Nat × UInt8)) (m n : Nat) (c : UInt8) (h : rs = pre ++ (n, c) :: rest) (hm : m ≤ n) (hb : totR rs / w ≤ 200) : (chunkB w (cellsR pre ++ List.replicate m c)).length ≤ 200 := by
  rw [chunk_len]
  refine Nat.le_trans (Nat.div_le_div_right ?_) hb
  unfold totR
  rw [h, cellsR_append, cellsR_cons]
  simp
  omega
end Go.Proofs.YthanegmaipckdaaDoor
