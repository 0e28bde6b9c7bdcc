/- Strips of a program text, and which frames are found in them. (Layer 28) -/
import Derived.Test.YtjmglbppmolipaaGreatDoorLdPlain
import Derived.Test.YtjmglbppmolipaaGreatDoorPfSame
import Derived.Test.YtjmglbppmolipaaGreatDoorLdInput
namespace Go.Proofs.YtjmglbppmolipaaGreatDoor
set_option linter.unusedVariables false

/-- the characters of a frame, its mark ahead -/
def chT (p : Pc) : List UInt8 := [6, 87] ++ sealB (headB p)
def catT (ps : List Pc) : List UInt8 := ps.flatMap chT
theorem encL_cells (p : Pc) : encL p = cellsB (chT p) := by
  unfold encL chT
  rw [cellsB_append]
  rfl
theorem cat_cells : ∀ ps : List Pc, ps.flatMap encL = cellsB (catT ps)
  | [] => rfl
  | p :: ps => by
    unfold catT
    rw [List.flatMap_cons, List.flatMap_cons, cellsB_append, cat_cells ps, encL_cells]
    rfl
theorem cells_win (T : List UInt8) (a k : Nat) (ha : a + 1 < T.length) (hk : k < 8) : ((cellsB T).drop (8 * a + k)).take 8 = ((bits8 T[a] ++ bits8 T[a + 1]).drop k).take 8 := by
  have e : T = T.take a ++ (T[a] :: T[a + 1] :: T.drop (a + 2)) := by
    conv => lhs; rw [← List.take_append_drop a T]
    rw [List.drop_eq_getElem_cons (show a < T.length by omega), List.drop_eq_getElem_cons (show a + 1 < T.length by omega)]
  have hl : (cellsB (T.take a)).length = 8 * a := by rw [cellsB_len, List.length_take, Nat.min_eq_left (by omega)]
  conv => lhs; rw [e, cellsB_append]
  rw [← hl, ← List.drop_drop, List.drop_left]
  show ((bits8 T[a] ++ (bits8 T[a + 1] ++ cellsB (T.drop (a + 2)))).drop k).take 8 = _
  rw [← List.append_assoc]
  have h8 : ∀ c, (bits8 c).length = 8 := fun c => by simp [bits8]
  rw [List.drop_append_of_le_length (by rw [List.length_append, h8, h8]; omega), List.take_append_of_le_length (by rw [List.length_drop, List.length_append, h8, h8]; omega)]
theorem dig_pr {c : UInt8} (h : digC c = true) : prC c = true := by
  unfold digC at h
  unfold prC
  rw [Bool.and_eq_true, decide_eq_true_eq, decide_eq_true_eq] at h ⊢
  omega
/-- what decodes has printable characters alone -/
theorem decode_pr {W : List UInt8} (h : (decodeA W).2 = 0) (j : Nat) (hj : j < 94) : prC (byteC ((W.drop (8 * j)).take 8)) = true := by
  unfold decodeA at h
  split at h
  · cases h
  split at h
  · cases h
  rename_i hl
  have hl : W.length = 752 := Decidable.byContradiction hl
  split at h
  · cases h
  have hb : (bytesC W).length = 94 := by rw [bytesC_len, hl]
  have hg : (bytesC W)[j]? = some (byteC ((W.drop (8 * j)).take 8)) := by
    unfold bytesC
    rw [hl, List.getElem?_map, List.getElem?_range (by omega), Nat.mul_comm]
    rfl
  generalize byteC ((W.drop (8 * j)).take 8) = x at *
  generalize bytesC W = t at *
  unfold textA at h
  split at h
  · rename_i hs
    unfold fieldsA at h
    split at h
    · cases h
    rename_i hd
    have hd : digB (t.take 20) = true := by simpa using hd
    split at h
    · cases h
    split at h
    · rename_i h2; exact absurd h h2
    rename_i hc
    have hc := (check_ok (Decidable.byContradiction hc)).2.2.2.2.2
    have hjt : j < t.length := by omega
    rw [List.getElem?_eq_getElem hjt] at hg
    injection hg with hg
    by_cases h1 : j < 20
    · unfold digB at hd
      rw [List.all_eq_true] at hd
      refine dig_pr (hd x ?_)
      rw [← hg]
      refine List.mem_of_getElem? (i := j) ?_
      rw [List.getElem?_take_of_lt h1, List.getElem?_eq_getElem hjt]
    by_cases h3 : j < 84
    · unfold prB at hc
      rw [BA_data, List.all_eq_true] at hc
      refine hc x ?_
      rw [← hg]
      refine List.mem_of_getElem? (i := j - 20) ?_
      rw [List.getElem?_take_of_lt (by omega), List.getElem?_drop, show 20 + (j - 20) = j by omega, List.getElem?_eq_getElem hjt]
    · have hl := digB_low 10 (crcS (t.take 84))
      rw [← hs] at hl
      unfold digB at hl
      rw [List.all_eq_true] at hl
      refine dig_pr (hl x ?_)
      rw [← hg]
      refine List.mem_of_getElem? (i := j - 84) ?_
      rw [List.getElem?_drop, show 84 + (j - 84) = j by omega, List.getElem?_eq_getElem hjt]
  · cases h
def cb (k : Nat) (c d : UInt8) : UInt8 := byteC (((bits8 c ++ bits8 d).drop k).take 8)
theorem cb_mark : ∀ k : Fin 8, k.val ≠ 3 → k.val ≠ 4 → k.val ≠ 7 → prC (cb k.val 6 87) = false := by decide +kernel
theorem cb_dig3 : ∀ d : Fin 256, digC (UInt8.ofNat d.val) = true → prC (cb 3 87 (UInt8.ofNat d.val)) = false := by decide +kernel
theorem cb_dig7 : ∀ d : Fin 256, digC (UInt8.ofNat d.val) = true → prC (cb 7 87 (UInt8.ofNat d.val)) = false := by decide +kernel
theorem cb_dig4 : ∀ d : Fin 256, digC (UInt8.ofNat d.val) = true → prC (cb 4 48 (UInt8.ofNat d.val)) = false := by decide +kernel
theorem all8 {P : UInt8 → Prop} (h : ∀ d : Fin 256, P (UInt8.ofNat d.val)) (c : UInt8) : P c := by
  have := h ⟨c.toNat, c.toNat_lt⟩
  simpa using this
/-- a frame that may stand in a strip -/
structure Fit (p : Pc) : Prop where
  arch : p.arch < 4294967296
  ok : checkZ p.index p.total p.text = 0
  index : p.index < 10000
  total : p.total < 10000
theorem Fit.len {p : Pc} (h : Fit p) : (chT p).length = 96 := by
  unfold chT
  rw [List.length_append, seal_len (check_ok h.ok).2.2.2.2.1]
  rfl
theorem low_first (k n : Nat) (h : n < 10 ^ k) : (lowD (k + 1) n)[0]? = some 48 := by
  rw [lowD_cons, Nat.div_eq_of_lt h]
  rfl
theorem low_dig {k n j : Nat} {c : UInt8} (h : (lowD k n)[j]? = some c) : digC c = true := by
  have := digB_low k n
  unfold digB at this
  rw [List.all_eq_true] at this
  exact this c (List.mem_of_getElem? h)
theorem ch_get {p : Pc} (h : Fit p) : (chT p)[0]? = some 6 ∧ (chT p)[1]? = some 87 ∧ (∃ c, (chT p)[2]? = some c ∧ digC c = true) ∧ (chT p)[12]? = some 48 ∧ (∃ c, (chT p)[13]? = some c ∧ digC c = true) ∧ (chT p)[17]? = some 48 ∧ (∃ c, (chT p)[18]? = some c ∧ digC c = true) := by
  have l1 := lowD_len 10 p.arch
  have l2 := lowD_len 5 p.index.toNat
  have l3 := lowD_len 5 p.total.toNat
  have key : ∀ j, j < 20 → (chT p)[2 + j]? = ((lowD 10 p.arch ++ lowD 5 p.index.toNat) ++ lowD 5 p.total.toNat)[j]? := by
    intro j hj
    unfold chT sealB headB
    rw [List.getElem?_append_right (by simp), show 2 + j - [(6 : UInt8), 87].length = j by simp, List.getElem?_append_left (by simp only [List.length_append]; omega), List.getElem?_append_left (by simp only [List.length_append]; omega)]
  have hok := check_ok h.ok
  have hi := low_first 4 p.index.toNat (by have := h.index; have := hok.2.2.1; omega)
  have ht := low_first 4 p.total.toNat (by have := h.total; have := hok.1; omega)
  have get : ∀ (k n j : Nat), j < k → ∃ c, (lowD k n)[j]? = some c ∧ digC c = true := by
    intro k n j hj
    have hl := lowD_len k n
    exact ⟨_, List.getElem?_eq_getElem (by omega), low_dig (List.getElem?_eq_getElem (by omega))⟩
  refine ⟨rfl, rfl, ?_, ?_, ?_, ?_, ?_⟩
  · rw [key 0 (by decide), List.getElem?_append_left (by rw [List.length_append]; omega), List.getElem?_append_left (by omega)]
    exact get _ _ _ (by decide)
  · rw [key 10 (by decide), List.getElem?_append_left (by rw [List.length_append]; omega), List.getElem?_append_right (by omega), l1]
    exact hi
  · rw [key 11 (by decide), List.getElem?_append_left (by rw [List.length_append]; omega), List.getElem?_append_right (by omega), l1]
    exact get _ _ _ (by decide)
  · rw [key 15 (by decide), List.getElem?_append_right (by rw [List.length_append]; omega), List.length_append, l1, l2]
    exact ht
  · rw [key 16 (by decide), List.getElem?_append_right (by rw [List.length_append]; omega), List.length_append, l1, l2]
    exact get _ _ _ (by decide)
theorem cat_len : ∀ ps : List Pc, (∀ p ∈ ps, Fit p) → (catT ps).length = 96 * ps.length
  | [], _ => rfl
  | p :: ps, h => by
    have ih := cat_len ps (fun q hq => h q (List.mem_cons_of_mem _ hq))
    unfold catT at ih ⊢
    rw [List.flatMap_cons, List.length_append, ih, (h p List.mem_cons_self).len, List.length_cons]
    omega
theorem cat_get : ∀ (ps : List Pc), (∀ p ∈ ps, Fit p) → ∀ (q r : Nat) (hq : q < ps.length), r < 96 → (catT ps)[96 * q + r]? = (chT ps[q])[r]?
  | [], _, q, _, hq, _ => by simp at hq
  | p :: ps, h, q, r, hq, hr => by
    have hl := (h p List.mem_cons_self).len
    unfold catT
    rw [List.flatMap_cons]
    match q with
    | 0 =>
      rw [Nat.mul_zero, Nat.zero_add, List.getElem?_append_left (by omega)]
      rfl
    | q + 1 =>
      rw [List.getElem?_append_right (by omega), hl, show 96 * (q + 1) + r - 96 = 96 * q + r by omega]
      exact cat_get ps (fun x hx => h x (List.mem_cons_of_mem _ hx)) q r (by simpa using hq) hr
theorem mark_at (ps : List Pc) (h : ∀ p ∈ ps, Fit p) (q : Nat) (hq : q < ps.length) : ∃ a x : List UInt8, ps.flatMap encL = a ++ (plainM ++ x) ∧ a.length = 768 * q := by
  have e : ps = ps.take q ++ ps[q] :: ps.drop (q + 1) := by rw [List.getElem_cons_drop]; exact (List.take_append_drop q ps).symm
  refine ⟨(ps.take q).flatMap encL, cellsB (sealB (headB ps[q])) ++ (ps.drop (q + 1)).flatMap encL, ?_, ?_⟩
  · conv => lhs; rw [e]
    rw [List.flatMap_append, List.flatMap_cons]
    unfold encL
    simp only [List.append_assoc]
  · rw [cat_cells, cellsB_len, cat_len _ (fun p hp => h p (List.mem_of_mem_take hp)), List.length_take, Nat.min_eq_left (by omega)]
    omega
/-- where a mark is found within 15 cells ahead of a mark there is none -/
theorem isPl_under (a x : List UInt8) (i d : Nat) (h1 : 1 ≤ d) (h2 : d < 16) (hi : i + d = a.length) : isPl (a ++ (plainM ++ x)) i = false := by
  obtain ⟨j, hj, hne⟩ := mark_no ⟨d, h2⟩ h1
  refine isPl_no (j := d + j.val) hj ?_
  unfold cellAt
  have hl : plainM.length = 16 := rfl
  have hj16 := j.isLt
  simp only at hj hne
  rw [List.getD_eq_getElem?_getD, List.getElem?_append_right (by omega), show i + (d + j.val) - a.length = j.val by omega, List.getElem?_append_left (by omega)]
  intro e
  apply hne
  rw [List.getElem?_eq_getElem (show j.val < plainM.length by omega)] at e ⊢
  rw [List.getElem?_eq_getElem (show d + j.val < plainM.length by omega)]
  have e2 : plainM[j.val]'(by omega) = plainM[d + j.val]'(by omega) := by
    have e3 : plainM[d + j.val]? = some (plainM[d + j.val]'(by omega)) := List.getElem?_eq_getElem _
    simpa [e3] using e
  rw [e2]
theorem frameAt_cat (ps : List Pc) (hv : ∀ p ∈ ps, Fit p) (i arch : Nat) (hi : i + 768 ≤ 768 * ps.length) (h0 : i % 768 ≠ 0) : frameAt (ps.flatMap encL) arch i = [] := by
  obtain ⟨q, hq⟩ : ∃ q, q = i / 768 := ⟨_, rfl⟩
  obtain ⟨r, hr⟩ : ∃ r, r = i % 768 := ⟨_, rfl⟩
  have hiq : i = 768 * q + r := by omega
  have hr8 : r < 768 := by omega
  have hq1 : q + 1 < ps.length := by omega
  by_cases h16 : r < 16
  · obtain ⟨a, x, e, hl⟩ := mark_at ps hv q (by omega)
    rw [e]
    refine frameAt_no ?_
    rw [hiq, ← hl]
    exact isPl_over a x r (by omega) h16
  by_cases h752 : 752 < r
  · obtain ⟨a, x, e, hl⟩ := mark_at ps hv (q + 1) hq1
    rw [e]
    exact frameAt_no (isPl_under a x i (768 - r) (by omega) (by omega) (by omega))
  refine frameAt_bad fun hd => ?_
  obtain ⟨m, hm⟩ : ∃ m, m = r / 8 := ⟨_, rfl⟩
  obtain ⟨k, hk⟩ : ∃ k, k = r % 8 := ⟨_, rfl⟩
  have hk8 : k < 8 := by omega
  have hi2 : i = 8 * (96 * q + m) + k := by omega
  have hlen := cat_len ps hv
  -- the character at a, a + 1 that the window shows bent
  have key : ∀ (a : Nat) (c d : UInt8), 96 * q + m + 2 ≤ a → a ≤ 96 * q + m + 95 → (catT ps)[a]? = some c → (catT ps)[a + 1]? = some d → prC (cb k c d) = true := by
    intro a c d h1 h2 hc hd2
    have ha1 : a + 1 < (catT ps).length := by
      rcases Nat.lt_or_ge (a + 1) (catT ps).length with h | h
      · exact h
      · rw [List.getElem?_eq_none h] at hd2; cases hd2
    rw [List.getElem?_eq_getElem (by omega)] at hc hd2
    have hp := decode_pr hd (a - (96 * q + m + 2)) (by omega)
    rw [List.drop_take, List.take_take, Nat.min_eq_left (by omega), List.drop_drop, cat_cells, show i + 16 + 8 * (a - (96 * q + m + 2)) = 8 * a + k by omega, cells_win _ _ _ ha1 hk8] at hp
    have hc := Option.some.inj hc
    have hd2 := Option.some.inj hd2
    rw [hc, hd2] at hp
    exact hp
  have hf := hv ps[q] (List.getElem_mem _)
  have hf1 := hv ps[q + 1] (List.getElem_mem _)
  obtain ⟨-, -, -, -, -, a17, c18, a18, d18⟩ := ch_get hf
  obtain ⟨b0, b1, ⟨c2, b2, d2⟩, b12, ⟨c13, b13, d13⟩, -⟩ := ch_get hf1
  have g : ∀ j, j < 96 → (catT ps)[96 * (q + 1) + j]? = (chT ps[q + 1])[j]? := fun j hj => cat_get ps hv (q + 1) j hq1 hj
  have g0 : ∀ j, j < 96 → (catT ps)[96 * q + j]? = (chT ps[q])[j]? := fun j hj => cat_get ps hv q j (by omega) hj
  by_cases h4 : k = 4
  · by_cases hm15 : m ≤ 15
    · have := key (96 * q + 17) 48 c18 (by omega) (by omega) ((g0 17 (by decide)).trans a17) ((g0 18 (by decide)).trans a18)
      rw [h4, all8 (P := fun d => digC d = true → prC (cb 4 48 d) = false) cb_dig4 c18 d18] at this
      cases this
    · have := key (96 * (q + 1) + 12) 48 c13 (by omega) (by omega) ((g 12 (by decide)).trans b12) ((g 13 (by decide)).trans b13)
      rw [h4, all8 (P := fun d => digC d = true → prC (cb 4 48 d) = false) cb_dig4 c13 d13] at this
      cases this
  by_cases h3 : k = 3
  · have := key (96 * (q + 1) + 1) 87 c2 (by omega) (by omega) ((g 1 (by decide)).trans b1) ((g 2 (by decide)).trans b2)
    rw [h3, all8 (P := fun d => digC d = true → prC (cb 3 87 d) = false) cb_dig3 c2 d2] at this
    cases this
  by_cases h7 : k = 7
  · have := key (96 * (q + 1) + 1) 87 c2 (by omega) (by omega) ((g 1 (by decide)).trans b1) ((g 2 (by decide)).trans b2)
    rw [h7, all8 (P := fun d => digC d = true → prC (cb 7 87 d) = false) cb_dig7 c2 d2] at this
    cases this
  have := key (96 * (q + 1) + 0) 6 87 (by omega) (by omega) ((g 0 (by decide)).trans b0) ((g 1 (by decide)).trans b1)
  rw [cb_mark ⟨k, hk8⟩ h3 h4 h7] at this
  cases this
theorem framesTo_add (s : List UInt8) (arch m : Nat) : ∀ d, (∀ i, m ≤ i → i < m + d → frameAt s arch i = []) → framesTo s arch (m + d) = framesTo s arch m
  | 0, _ => rfl
  | d + 1, h => by
    rw [show m + (d + 1) = (m + d) + 1 by omega, framesTo_succ, framesTo_add s arch m d (fun i h1 h2 => h i h1 (by omega)), h (m + d) (by omega) (by omega), List.append_nil]
theorem framesTo_to (s : List UInt8) (arch m M : Nat) (h : m ≤ M) (hi : ∀ i, m ≤ i → i < M → frameAt s arch i = []) : framesTo s arch M = framesTo s arch m := by
  obtain ⟨d, rfl⟩ := Nat.exists_eq_add_of_le h
  exact framesTo_add s arch m d hi
theorem framesTo_cat (ps : List Pc) (arch : Nat) (hv : ∀ p ∈ ps, Fit p) : ∀ n, n ≤ ps.length → framesTo (ps.flatMap encL) arch (768 * n - 767) = (ps.take n).filter fun p => decide (p.arch = arch)
  | 0, _ => rfl
  | n + 1, hn => by
    have ih := framesTo_cat ps arch hv n (by omega)
    have h1 : framesTo (ps.flatMap encL) arch (768 * n) = framesTo (ps.flatMap encL) arch (768 * n - 767) := by
      exact framesTo_to _ _ _ _ (by omega) (fun i h1 h2 => frameAt_cat ps hv i arch (by omega) (by omega))
    rw [show 768 * (n + 1) - 767 = 768 * n + 1 by omega, framesTo_succ, h1, ih]
    have e : ps = ps.take n ++ ps[n] :: ps.drop (n + 1) := by rw [List.getElem_cons_drop]; exact (List.take_append_drop n ps).symm
    have hf := hv ps[n] (List.getElem_mem _)
    have hl : ((ps.take n).flatMap encL).length = 768 * n := by
      rw [cat_cells, cellsB_len, cat_len _ (fun p hp => hv p (List.mem_of_mem_take hp)), List.length_take, Nat.min_eq_left (by omega)]; omega
    have hfa := frameAt_enc ps[n] ((ps.take n).flatMap encL) ((ps.drop (n + 1)).flatMap encL) hf.arch hf.ok arch
    have e2 : ps.flatMap encL = (ps.take n).flatMap encL ++ (encL ps[n] ++ (ps.drop (n + 1)).flatMap encL) := by
      conv => lhs; rw [e]
      rw [List.flatMap_append, List.flatMap_cons]
    have hfb : frameAt (ps.flatMap encL) arch (768 * n) = if ps[n].arch = arch then [ps[n]] else [] := by
      rw [e2]
      generalize hM : 768 * n = M at hl ⊢
      rw [← hl]
      exact hfa
    rw [hfb, List.take_succ_eq_append_getElem (by omega), List.filter_append]
    have hlast : (if ps[n].arch = arch then [ps[n]] else []) = [ps[n]].filter fun p => decide (p.arch = arch) := by
      rw [List.filter_cons, List.filter_nil]
      by_cases ha : ps[n].arch = arch
      · rw [if_pos ha, if_pos (decide_eq_true ha)]
      · rw [if_neg ha, if_neg (by rw [decide_eq_false ha]; exact Bool.false_ne_true)]
    rw [hlast]
/-- the frames of a piece of frames are these frames -/
theorem framesP_cat (ps : List Pc) (arch : Nat) (hv : ∀ p ∈ ps, Fit p) : framesP arch (BA (ps.flatMap encL)) = ps.filter fun p => decide (p.arch = arch) := by
  unfold framesP
  have hl : (ps.flatMap encL).length = 768 * ps.length := by rw [cat_cells, cellsB_len, cat_len ps hv]; omega
  rw [BA_data, BA_size, hl, framesTo_cat ps arch hv ps.length (Nat.le_refl _), List.take_length]
end Go.Proofs.YtjmglbppmolipaaGreatDoor
namespace Go.Proofs.YtjmglbppmolipaaGreatDoor
open Go.RowKit
open Go.Lib hiding intOf
set_option linter.unusedVariables false

/-- the groups of at most four of n elements in block g -/
def grpV (g n c i : Nat) : List Value := (List.range i).map fun k => .slice (some ⟨g, 16 * k, none⟩) (min 4 (n - 4 * k)) (c - 4 * k)
theorem grpV_snoc (g n c i : Nat) : grpV g n c (i + 1) = grpV g n c i ++ [.slice (some ⟨g, 16 * i, none⟩) (min 4 (n - 4 * i)) (c - 4 * i)] := by
  unfold grpV
  rw [List.range_succ, List.map_append]; rfl
theorem grpV_len (g n c i : Nat) : (grpV g n c i).length = i := by simp [grpV]
theorem groupInfo : (Tryz.prog.info? 42).map (fun i => (i.zero, i.size, i.bytes)) = some (some (.slice none 0 0), 1, 24) := by kernel_rfl
set_option maxRecDepth 100000 in
set_option maxHeartbeats 3200000 in
theorem groups_any (A : Option Addr) (g n c : Nat) (w : World) (hA : 0 < n → A = some ⟨g, 0, none⟩) (hn : n ≤ c) (hc : c ≤ maxLen) (hz : n ≤ 100000) :
    Calls Tryz.prog 27 #[.slice A n c, .int .i64 4] w fun e w' => ∃ v, e = .returned v ∧ w'.ownsRow w.heap.size 42 1 v ((n + 3) / 4) (grpV g n c ((n + 3) / 4)) ∧ Ext w w' := by
  obtain ⟨i0, hi, hz0, hz1, hz2⟩ := info_parts groupInfo
  unfold maxLen at hc
  go_enter Tryz.func27, Tryz.ntmps27
  go_wp2_with fail
  go_loopw [0, 5] (fun lv ov wr => ∃ (i : Nat) (a : Option Addr) (cc : Nat), i ≤ (n + 3) / 4 ∧ lv = .slice a (n - 4 * i) cc ∧ (0 < n - 4 * i → a = some ⟨g, 16 * i, none⟩ ∧ cc = c - 4 * i) ∧ n - 4 * i ≤ cc ∧ cc ≤ c ∧ wr.ownsRow w.heap.size 42 1 ov i (grpV g n c i) ∧ Ext w wr) (fun lv _ _ => match lv with | .slice _ k _ => k | _ => 0)
  case atStart => exact ⟨0, A, c, Nat.zero_le _, rfl, fun h => ⟨hA h, rfl⟩, hn, Nat.le_refl _, ⟨rfl, .inl ⟨rfl, rfl⟩⟩, Ext.refl _⟩
  case round =>
    obtain ⟨i, a, cc, hi4, rfl, ha, hcc, hcc2, hown, hx⟩ := hrel
    have HO := Lib.hid hown
    clear hown
    obtain ⟨m, hm⟩ : ∃ m, m = n - 4 * i := ⟨_, rfl⟩
    rw [← hm] at ha hcc ⊢
    by_cases h0 : 0 < m
    · obtain ⟨rfl, hce⟩ := ha h0
      have HCE := Lib.hid hce
      have HM := Lib.hid hm
      have hcz : Hid (grpV g n c (i + 1) = grpV g n c i ++ [.slice (some ⟨g, 16 * i, none⟩) (min 4 m) cc]) := by
        show _ = _
        rw [grpV_snoc, hm, hce]
      have hi25 : i ≤ 25001 := by omega
      clear hce hm ha
      by_cases h4 : 4 < m
      · have hmin : min (4 : Int) (m : Int) = 4 := by omega
        have hcz2 : Hid (grpV g n c (i + 1) = grpV g n c i ++ [.slice (some ⟨g, 16 * i, none⟩) 4 cc]) := by
          have := hcz.out
          rw [show min 4 m = 4 by omega] at this
          exact this
        clear hcz
        go_wp2_with (at_builtin; refine wpList_append_own _ rfl (.tmp 14) (.tmp 18) _ rfl w.heap.size 42 i0 _ 1 24 Tryz.underlying54 hi hz0 hz1 hz2 rfl (by omega) _ _ _ rfl (HO.out.alloc _) ⟨wr.heap.size, 0, none⟩ 1 1 [.slice (some ⟨g, 16 * i, none⟩) 4 cc] rfl rfl ?d1 ?d2 ?d3 ?d4 ?d5 ?_)
        case d1 =>
          intro j u hu
          match j, hu with
          | 0, hu => simp at hu; subst hu; go_cell
        case d2 =>
          intro u hu
          simp at hu
          subst hu; rfl
        case d3 => unfold maxLen; omega
        case d4 => omega
        case d5 => (have hc5 := hx.size; try simp at hc5); simp; omega
        intro v' w2 hown2 hgr _
        have hx3 := (hx.alloc (.cells #[.slice (some ⟨g, 16 * i, none⟩) 4 cc] 42)).grown hgr (fun k hk => (HO.out.lt k hk).1)
        have HO2 := Lib.hid hown2
        have HG := Lib.hid hgr
        clear hown2 hgr
        go_wp2_with fail
        go_roundw
        case rel => exact ⟨i + 1, _, cc - 4, by have := HM.out; omega, by rw [show n - 4 * (i + 1) = m - 4 by have := HM.out; omega], fun h => ⟨by rw [show 16 * (i + 1) = 16 * i + 16 by omega], by have := HCE.out; omega⟩, by have := HM.out; omega, by omega, by rw [hcz2.out]; exact HO2.out, hx3⟩
        case measure => simp; omega
      · have hmin : min (4 : Int) (m : Int) = m := by omega
        have hcz2 : Hid (grpV g n c (i + 1) = grpV g n c i ++ [.slice (some ⟨g, 16 * i, none⟩) m cc]) := by
          have := hcz.out
          rw [show min 4 m = m by omega] at this
          exact this
        clear hcz
        go_wp2_with (at_builtin; refine wpList_append_own _ rfl (.tmp 14) (.tmp 18) _ rfl w.heap.size 42 i0 _ 1 24 Tryz.underlying54 hi hz0 hz1 hz2 rfl (by omega) _ _ _ rfl (HO.out.alloc _) ⟨wr.heap.size, 0, none⟩ 1 1 [.slice (some ⟨g, 16 * i, none⟩) m cc] rfl rfl ?e1 ?e2 ?e3 ?e4 ?e5 ?_)
        case e1 =>
          intro j u hu
          match j, hu with
          | 0, hu => simp at hu; subst hu; go_cell
        case e2 =>
          intro u hu
          simp at hu
          subst hu; rfl
        case e3 => unfold maxLen; omega
        case e4 => omega
        case e5 => (have hc5 := hx.size; try simp at hc5); simp; omega
        intro v' w2 hown2 hgr _
        have hx3 := (hx.alloc (.cells #[.slice (some ⟨g, 16 * i, none⟩) m cc] 42)).grown hgr (fun k hk => (HO.out.lt k hk).1)
        have HO2 := Lib.hid hown2
        have HG := Lib.hid hgr
        clear hown2 hgr
        by_cases hcap : cc = m
        all_goals
          go_wp2_with fail
          go_roundw
          case rel => exact ⟨i + 1, _, _, by have := HM.out; omega, by rw [show n - 4 * (i + 1) = 0 by have := HM.out; omega], fun h => absurd h (by have := HM.out; omega), by have := HM.out; omega, by omega, by rw [hcz2.out]; exact HO2.out, hx3⟩
          case measure => simp; omega
    · obtain rfl : m = 0 := by omega
      have HI3 : Hid (i = (n + 3) / 4) := by show _ = _; omega
      clear hm
      go_wp2_with fail
      go_ret
      exact ⟨_, rfl, by have h := HO.out; rw [HI3.out] at h; exact h, hx⟩

/-- the strips of frames: at most four frames a strip -/
def chunkP (ps : List Pc) (k : Nat) : List Pc := (ps.drop (4 * k)).take 4
def stripB (ps : List Pc) (k : Nat) : ByteArray := BA ((chunkP ps k).flatMap encL)
def stripsN (ps : List Pc) (i : Nat) : List ByteArray := (List.range i).map (stripB ps)
def stripsL (ps : List Pc) : List ByteArray := stripsN ps ((ps.length + 3) / 4)
theorem stripsN_succ (ps : List Pc) (i : Nat) : stripsN ps (i + 1) = stripsN ps i ++ [stripB ps i] := by
  unfold stripsN
  rw [List.range_succ, List.map_append]; rfl
theorem stripsN_len (ps : List Pc) (i : Nat) : (stripsN ps i).length = i := by simp [stripsN]
theorem chunk_len (ps : List Pc) (k : Nat) : (chunkP ps k).length = min 4 (ps.length - 4 * k) := by unfold chunkP; rw [List.length_take, List.length_drop]
theorem chunk_get (ps : List Pc) (k j : Nat) (h : j < (chunkP ps k).length) : (chunkP ps k)[j] = ps[4 * k + j]'(by rw [chunk_len] at h; omega) := by
  simp [chunkP]
theorem flat_len : ∀ l : List Pc, (∀ p ∈ l, (encL p).length = 768) → (l.flatMap encL).length = 768 * l.length
  | [], _ => rfl
  | p :: l, h => by
    rw [List.flatMap_cons, List.length_append, h p List.mem_cons_self, flat_len l (fun q hq => h q (List.mem_cons_of_mem _ hq)), List.length_cons]
    omega
theorem flat_snoc (l : List Pc) (j : Nat) (h : j < l.length) : (l.take (j + 1)).flatMap encL = (l.take j).flatMap encL ++ encL l[j] := by
  rw [List.take_succ_eq_append_getElem h, List.flatMap_append]
  simp
theorem chunk_mem {ps : List Pc} {k : Nat} {p : Pc} (h : p ∈ chunkP ps k) : p ∈ ps := List.mem_of_mem_drop (List.mem_of_mem_take h)
def StrPost (w : World) (rows : List ByteArray) (E : Int) (e : Ending) (w' : World) : Prop :=
  ∃ v, e = .returned (.tuple #[v, .int .i64 E]) ∧ w'.ownsRow w.heap.size 9 1 v rows.length (rows.map Value.string) ∧ Ext w w'
theorem strsV_snoc (l : List ByteArray) (x : ByteArray) : (l ++ [x]).map Value.string = l.map Value.string ++ [.string x] := by simp
theorem strInfoB : (Tryz.prog.info? 9).map (fun i => (i.zero, i.size, i.bytes)) = some (some (.string ⟨#[]⟩), 1, 16) := by kernel_rfl
theorem splitA_cases (s : ByteArray) (arch : Nat) : ((splitA s arch).1 = [] ∧ (splitA s arch).2 ≠ 0) ∨ (s.size ≤ 40000 ∧ prB s.data.toList = true ∧ splitA s arch = (piecesP s arch, 0)) := by
  unfold splitA
  by_cases h1 : 40000 < s.size
  · rw [if_pos h1]; exact .inl ⟨rfl, by decide⟩
  rw [if_neg h1]
  cases h2 : prB s.data.toList with
  | false => rw [if_pos rfl]; exact .inl ⟨rfl, by decide⟩
  | true => rw [if_neg (by decide)]; exact .inr ⟨by omega, rfl, rfl⟩
set_option maxRecDepth 100000 in
set_option maxHeartbeats 6400000 in
theorem strips_any (s : ByteArray) (arch : Nat) (w : World) (hs : s.size ≤ maxLen) (ha : arch < 4294967296) (hE : Env w) :
    Calls Tryz.prog 14 #[.string s, .int .u32 arch] w (StrPost w (stripsL (splitA s arch).1) (splitA s arch).2) := by
  have hsp := split_any' s arch w hs
  rcases splitA_cases s arch with ⟨h1, h2⟩ | ⟨h40, hp, hsa⟩
  · rw [h1] at hsp ⊢
    have hE2 : ((splitA s arch).2 != 0) = true := by simpa using h2
    have HS := Lib.hid hsp
    generalize (splitA s arch).2 = E at *
    clear hsp h1 h2
    go_enter Tryz.func14, Tryz.ntmps14
    go_wp2_with fail
    refine HS.out.mono ?_
    rintro e w1 ⟨v, rfl, hown, hx⟩
    clear hown
    go_wp2_with fail
    go_ret2
    exact ⟨.slice none 0 0, rfl, ⟨rfl, .inl ⟨rfl, rfl⟩⟩, hx⟩
  · rw [hsa] at hsp ⊢
    have hv := pieces_valid s arch h40 hp
    have hn : (piecesP s arch).length ≤ 625 := by rw [pieces_len]; unfold totalN; omega
    simp only at hsp ⊢
    generalize piecesP s arch = ps at *
    have HS := Lib.hid hsp
    have HV := Lib.hid (fun p hp W hE => by
      have h := encode_any p W (by rw [(hv p hp).1]; exact ha) (by rw [(check_ok (hv p hp).2).2.2.2.2.1]; decide) hE
      unfold encodeA at h
      rw [if_pos (hv p hp).2] at h
      exact h : ∀ p ∈ ps, ∀ W, Env W → Calls Tryz.prog 28 #[p.val] W fun e w' => e = .returned (.tuple #[.string (BA (encL p)), .int .i64 0]) ∧ Ext W w')
    have HZ := Lib.hid (fun p hp => enc_len (check_ok (hv p hp).2).2.2.2.2.1 : ∀ p ∈ ps, (encL p).length = 768)
    obtain ⟨i0, hi, hz0, hz1, hz2⟩ := info_parts strInfoB
    obtain ⟨n, hnn⟩ : ∃ n, n = ps.length := ⟨_, rfl⟩
    rw [← hnn] at hn
    have HN := Lib.hid hnn
    have HE0 := Lib.hid hE
    clear hsp hsa hv hnn
    go_enter Tryz.func14, Tryz.ntmps14
    go_wp2_with fail
    refine HS.out.mono ?_
    rintro e w1 hpp
    obtain ⟨A, cap, rfl, hpl, hx1⟩ := hpp.open
    rw [← HN.out] at hpl ⊢
    have hroom := hpl.room
    have hmax := hpl.max
    obtain ⟨g, hg⟩ : ∃ g, 0 < n → A = some ⟨g, 0, none⟩ := by
      by_cases h0 : 0 < n
      · obtain ⟨b, hb, -⟩ := hpl.at_ h0
        exact ⟨b, fun _ => hb⟩
      · exact ⟨0, fun h => absurd h h0⟩
    have HG := Lib.hid (groups_any A g n cap w1 hg hroom hmax (by omega))
    have HPL := Lib.hid hpl
    have HE := Lib.hid (fun W (h : Ext w1 W) => HE0.out.ext (hx1.trans h))
    have HGA := Lib.hid hg
    unfold maxLen at hmax
    clear hpp hpl hg
    go_wp2_with fail
    refine HG.out.mono ?_
    rintro e w2 ⟨v, rfl, hown, hx2⟩
    obtain ⟨K, hK⟩ : ∃ K, K = (n + 3) / 4 := ⟨_, rfl⟩
    rw [← hK] at hown
    obtain ⟨A2, c2, rfl, hL2⟩ := Lst.of_own hown
    have hr2 := hL2.room
    have hm2 := hL2.max
    unfold maxLen at hm2
    have hx12 := hx1.trans hx2
    have HL2 := Lib.hid hL2
    have HK := Lib.hid hK
    have hK2 : K ≤ 157 := by omega
    clear hL2 hown hK
    go_wp2_with fail
    go_loopw [8, 28] (fun ov iv wr => ∃ i : Nat, iv = .int .i64 i ∧ i ≤ K ∧ wr.ownsRow w2.heap.size 9 1 ov i ((stripsN ps i).map Value.string) ∧ Ext w2 wr) (fun _ iv _ => K - (intOf iv).toNat)
    case atStart => exact ⟨0, rfl, Nat.zero_le _, ⟨rfl, .inl ⟨rfl, rfl⟩⟩, Ext.refl _⟩
    case round =>
      obtain ⟨i, rfl, hiK, hown, hx⟩ := hrel
      have HO := Lib.hid hown
      clear hown
      by_cases hlt : i < K
      · obtain ⟨m, hm⟩ : ∃ m, m = min 4 (n - 4 * i) := ⟨_, rfl⟩
        have hm4 : 1 ≤ m ∧ m ≤ 4 ∧ m ≤ n - 4 * i := by have := HK.out; omega
        obtain ⟨q, off, rfl, hq⟩ := HL2.out.at_ (by omega)
        have hcell : wr.cell? ⟨q, off + i, none⟩ = some (.slice (some ⟨g, 16 * i, none⟩) m (cap - 4 * i)) := by
          have h := hx.cell (hq i (by rw [grpV_len]; exact hlt))
          unfold grpV at h
          rw [List.getElem_map, List.getElem_range, ← hm] at h
          exact h
        have hcl : (chunkP ps i).length = m := by rw [chunk_len, hm, HN.out]
        obtain ⟨L, hL⟩ : ∃ L, L = chunkP ps i := ⟨_, rfl⟩
        have HLm : Hid (∀ p ∈ L, p ∈ ps) := fun p hp => chunk_mem (by rw [← hL]; exact hp)
        have HLg : Hid (∀ W, Ext w1 W → ∀ j (h : j < L.length), W.cell? ⟨g, 16 * i + j * 4, none⟩ = some (.int .u32 L[j].arch) ∧ W.cell? ⟨g, 16 * i + j * 4 + 1, none⟩ = some (.int .i64 L[j].index) ∧ W.cell? ⟨g, 16 * i + j * 4 + 2, none⟩ = some (.int .i64 L[j].total) ∧ W.cell? ⟨g, 16 * i + j * 4 + 3, none⟩ = some (.string L[j].text)) := by
          intro W hW j hj
          subst hL
          obtain ⟨b, hb, hc⟩ := HPL.out.at_ (by omega)
          have hbg : b = g := by
            have := (HGA.out (by omega)).symm.trans hb
            simp at this
            exact this.symm
          subst hbg
          obtain ⟨k1, k2, k3, k4⟩ := hc (4 * i + j) (by rw [hcl] at hj; have := HN.out; omega)
          rw [show (4 * i + j) * 4 = 16 * i + j * 4 by omega] at k1 k2 k3 k4
          rw [chunk_get ps i j hj]
          exact ⟨hW.cell k1, hW.cell k2, hW.cell k3, hW.cell k4⟩
        have HSn : Hid (stripsN ps (i + 1) = stripsN ps i ++ [BA (L.flatMap encL)]) := by
          show _ = _
          rw [stripsN_succ, hL]; rfl
        rw [← hL] at hcl
        have HLL := Lib.hid hcl
        have HX := Lib.hid hx
        have hmc : m ≤ cap - 4 * i := by omega
        have hcap2 : cap - 4 * i ≤ 9223372036854775807 := by omega
        generalize cap - 4 * i = cc at *
        clear hq hcl hL hm
        go_wp2_with fail
        obtain ⟨V, hV⟩ : ∃ V, V = wr := ⟨_, rfl⟩
        subst hV
        have HB0 : Hid (Bld V.heap.size V.heap.size [] (V.alloc (.cells #[.pointer none, .slice none 0 0] 60))) := Bld.fresh V _ _ _ (Nat.le_refl _) (heap_alloc_new V _)
        have HX0 : Hid (Ext V (V.alloc (.cells #[.pointer none, .slice none 0 0] 60))) := (Ext.refl _).alloc _
        generalize V.alloc (.cells #[.pointer none, .slice none 0 0] 60) = W0 at *
        go_loopw [34] (fun jv W => ∃ j : Nat, jv = .int .i64 j ∧ j ≤ m ∧ Bld V.heap.size V.heap.size ((L.take j).flatMap encL) W ∧ Ext V W) (fun jv _ => m - (intOf jv).toNat)
        case atStart => exact ⟨0, rfl, Nat.zero_le _, HB0.out, HX0.out⟩
        case round =>
          obtain ⟨j, rfl, hjm, hbld, hxj⟩ := hrel
          have HBL := Lib.hid hbld
          have HXJ := Lib.hid hxj
          have hV1 := hx2.trans (HX.out.trans hxj)
          have hEW := HE.out _ hV1
          have hfl : Hid (((L.take j).flatMap encL).length ≤ 3072) := by
            show _ ≤ _
            rw [flat_len _ (fun p hp => HZ.out p (HLm.out p (List.mem_of_mem_take hp))), List.length_take, HLL.out]; omega
          clear hbld hxj
          by_cases hjl : j < m
          · have hjL : j < L.length := by rw [HLL.out]; exact hjl
            obtain ⟨e0, e1, e2, e3⟩ := HLg.out wr hV1 j hjL
            have hsn := flat_snoc L j hjL
            have hmem := HLm.out _ (List.getElem_mem hjL)
            have hz768 := HZ.out _ hmem
            obtain ⟨x, hx'⟩ : ∃ x, x = L[j] := ⟨_, rfl⟩
            rw [← hx'] at e0 e1 e2 e3 hsn hmem hz768
            have HEN : Hid (∀ W, Env W → Calls Tryz.prog 28 #[.agg #[.int .u32 x.arch, .int .i64 x.index, .int .i64 x.total, .string x.text]] W fun e w' => e = .returned (.tuple #[.string (BA (encL x)), .int .i64 0]) ∧ Ext W w') := HV.out x hmem
            have HSN2 := Lib.hid hsn
            have hzB : Hid ((BA (encL x)).size = 768) := by show _ = _; rw [BA_size]; exact hz768
            clear hsn hmem hz768 hx' hV1
            go_wp2_with fail
            refine (HEN.out _ (hEW.ext ((Ext.refl _).alloc _))).mono ?_
            rintro e w5 ⟨rfl, hx5⟩
            have hx5' := ((Ext.refl wr).alloc _).trans hx5
            have HBL5 := Lib.hid (HBL.out.ext hx5')
            have hVw := HXJ.out.trans hx5'
            clear hx5 e0 e1 e2 e3
            go_wp2_with fail
            refine (bld_str V.heap.size V.heap.size _ (BA (encL x)) _ HBL5.out (by rw [hzB.out]; have := hfl.out; omega) hVw.size).mono ?_
            rintro e w6 ⟨rfl, hb6, hx6, hk6⟩
            have HB6 := Lib.hid hb6
            clear hb6 hk6
            go_wp2_with fail
            go_roundw
            case rel => exact ⟨j + 1, by go_num, by omega, by rw [HSN2.out]; have h := HB6.out; rw [BA_data] at h; exact h, Below.trans hVw hx6⟩
            case measure => simp [intOf]; omega
          · obtain rfl : j = m := by omega
            have hfull : Hid (L.take j = L) := List.take_of_length_le (by rw [HLL.out]; exact Nat.le_refl _)
            rw [hfull.out] at HBL hfl
            clear hV1
            go_wp2_with fail
            refine (bld_string V.heap.size V.heap.size _ _ HBL.out HXJ.out.size).mono ?_
            rintro e w6 ⟨rfl, hx6, hk6⟩
            have hx6' : Ext V w6 := Below.trans HXJ.out hx6
            have HO6 := Lib.hid (own_ext HO.out hx6')
            have hxw : Ext w2 w6 := HX.out.trans hx6'
            clear hk6
            rw [show (⟨(L.flatMap encL).toArray⟩ : ByteArray) = BA (L.flatMap encL) from rfl]
            generalize BA (L.flatMap encL) = y at *
            go_wp2_with (at_builtin; refine wpList_append_own _ rfl (.tmp 49) (.tmp 51) _ rfl w2.heap.size 9 i0 _ 1 16 Tryz.underlying22 hi hz0 hz1 hz2 rfl (by omega) _ _ _ rfl (HO6.out.alloc _) ⟨w6.heap.size, 0, none⟩ 1 1 [.string y] rfl rfl ?d1 ?d2 ?d3 ?d4 ?d5 ?_)
            case d1 =>
              intro j u hu
              match j, hu with
              | 0, hu => simp at hu; subst hu; go_cell
            case d2 =>
              intro u hu
              simp at hu
              subst hu; rfl
            case d3 => unfold maxLen; omega
            case d4 => omega
            case d5 => (have hc5 := hxw.size; try simp at hc5); simp; omega
            intro v' w2 hown2 hgr _
            have hx3 := (hxw.alloc (.cells #[.string y] 9)).grown hgr (fun k hk => (HO6.out.lt k hk).1)
            have HO2 := Lib.hid hown2
            have HG := Lib.hid hgr
            clear hown2 hgr
            go_wp2_with fail
            go_roundw
            case rel => exact ⟨i + 1, by go_num, by omega, by rw [HSn.out, strsV_snoc]; exact HO2.out, hx3⟩
            case measure => simp [intOf]; omega
      · have HI : Hid (i = (n + 3) / 4) := by show _ = _; rw [← HK.out]; omega
        go_wp2_with fail
        go_ret2
        exact ⟨_, rfl, by unfold stripsL; rw [stripsN_len, ← HN.out, ← HI.out]; exact own_base HO.out hx12.size, hx12.trans hx⟩
end Go.Proofs.YtjmglbppmolipaaGreatDoor
