/- What Load answers, in plain words; frames of encoded pieces. (Layer 27) -/
import Derived.Test.YtjmglbppmolipaaGreatDoorLdLoad
import Derived.Test.YtjmglbppmolipaaGreatDoorLdRef1
import Derived.Test.YtjmglbppmolipaaGreatDoorPfFlipP
import Derived.Test.YtjmglbppmolipaaGreatDoorPfSplit
namespace Go.Proofs.YtjmglbppmolipaaGreatDoor
open Go.RowKit
set_option linter.unusedVariables false

/-- what Load answers -/
def missN (f : Int → Option ByteArray) (n : Nat) : List Nat := (List.range n).filter fun (i : Nat) => (f (i : Int)).isNone
def joinN (f : Int → Option ByteArray) (n : Nat) : List UInt8 := (List.range n).flatMap fun (i : Nat) => ((f (i : Int)).getD ByteArray.empty).data.toList
def loadS (s : LdS) : List UInt8 × List Nat × Int :=
  if s.bad = true then ([], [], 20) else if s.total = 0 then ([], [], 9)
  else if missN s.texts s.total.toNat = [] then (joinN s.texts s.total.toNat, [], 0) else ([], missN s.texts s.total.toNat, 19)
def loadA (L : List Pc) : List UInt8 × List Nat × Int := loadS (ldRun L)
theorem missN_succ (f : Int → Option ByteArray) (n : Nat) : missN f (n + 1) = missN f n ++ (if (f (n : Int)).isNone = true then [n] else []) := by
  unfold missN
  rw [List.range_succ, List.filter_append]
  congr 1
  by_cases h : (f (n : Int)).isNone = true
  · rw [if_pos h, List.filter_cons_of_pos (by simpa using h)]; rfl
  · rw [if_neg h, List.filter_cons_of_neg (by simpa using h)]; rfl
theorem joinN_succ (f : Int → Option ByteArray) (n : Nat) : joinN f (n + 1) = joinN f n ++ ((f (n : Int)).getD ByteArray.empty).data.toList := by
  unfold joinN
  rw [List.range_succ, List.flatMap_append]
  simp
/-- no two frames contradict each other -/
def Cons (L : List Pc) : Prop := ∀ x ∈ L, ∀ y ∈ L, x.total = y.total ∧ (x.index = y.index → x.text = y.text)
def LdInv (L : List Pc) : Prop :=
  ((ldRun L).bad = true ∧ ¬ Cons L) ∨ ((ldRun L).bad = false ∧ Cons L ∧ (∀ x ∈ L, (ldRun L).total = x.total) ∧ (L = [] → (ldRun L).total = 0) ∧ ∀ k t, (ldRun L).texts k = some t ↔ ∃ x ∈ L, x.index = k ∧ x.text = t)
theorem cons_sub {L M : List Pc} (h : ∀ x ∈ L, x ∈ M) (hc : Cons M) : Cons L := fun x hx y hy => hc x (h x hx) y (h y hy)
theorem ldInv_snoc (L : List Pc) (x : Pc) (hv : ∀ y ∈ L ++ [x], y.total ≠ 0) (h : LdInv L) : LdInv (L ++ [x]) := by
  have hsub : ∀ y ∈ L, y ∈ L ++ [x] := fun y hy => List.mem_append.2 (.inl hy)
  have hxm : x ∈ L ++ [x] := List.mem_append.2 (.inr (List.mem_singleton.2 rfl))
  have hsp : ∀ {P : Pc → Prop}, (∃ y ∈ L ++ [x], P y) ↔ ((∃ y ∈ L, P y) ∨ P x) := fun {P} => by
    constructor
    · rintro ⟨y, hy, hp⟩
      rcases List.mem_append.1 hy with hy | hy
      · exact .inl ⟨y, hy, hp⟩
      · rw [List.mem_singleton] at hy; subst hy; exact .inr hp
    · rintro (⟨y, hy, hp⟩ | hp)
      · exact ⟨y, hsub y hy, hp⟩
      · exact ⟨x, hxm, hp⟩
  unfold LdInv
  rw [ldRun_snoc]
  unfold ldStep
  rcases h with ⟨hb, hc⟩ | ⟨hb, hc, ht, h0, hf⟩
  · rw [if_pos hb]
    exact .inl ⟨hb, fun h => hc (cons_sub hsub h)⟩
  rw [if_neg (by rw [hb]; decide)]
  by_cases hk : confl (ldRun L) x = true
  · rw [if_pos hk]
    refine .inl ⟨rfl, fun hC => ?_⟩
    unfold confl at hk
    rw [Bool.or_eq_true, Bool.and_eq_true, Bool.and_eq_true, decide_eq_true_eq, decide_eq_true_eq, decide_eq_true_eq] at hk
    rcases hk with ⟨k1, k2⟩ | ⟨k1, k2⟩
    · match L, ht, h0, hsub, k1, k2, hC with
      | [], ht, h0, _, k1, k2, hC => exact k1 (h0 rfl)
      | y :: L, ht, h0, hsub, k1, k2, hC =>
        have hy : y ∈ y :: L := List.mem_cons_self
        rw [ht y hy] at k2
        exact k2 (hC x hxm y (hsub y hy)).1
    · obtain ⟨t, e⟩ := Option.isSome_iff_exists.1 k1
      obtain ⟨y, hy, e1, e2⟩ := (hf x.index t).1 e
      rw [e] at k2
      exact k2 ((show t = x.text by rw [← e2]; exact (hC y (hsub y hy) x hxm).2 e1))
  · rw [if_neg hk]
    rw [Bool.not_eq_true] at hk
    unfold confl at hk
    rw [Bool.or_eq_false_iff, Bool.and_eq_false_iff, Bool.and_eq_false_iff, decide_eq_false_iff_not, decide_eq_false_iff_not, decide_eq_false_iff_not] at hk
    obtain ⟨k1, k2⟩ := hk
    have htx : ∀ y ∈ L, y.total = x.total := fun y hy => by
      have e := ht y hy
      rcases k1 with k1 | k1
      · have := hv y (hsub y hy); omega
      · have := Decidable.of_not_not k1; omega
    have hyx : ∀ y ∈ L, y.index = x.index → y.text = x.text := fun y hy e => by
      have e1 := (hf x.index y.text).2 ⟨y, hy, e, rfl⟩
      rw [e1] at k2
      rcases k2 with k2 | k2
      · cases k2
      · exact Decidable.of_not_not k2
    refine .inr ⟨rfl, ?_, ?_, fun h => absurd h (by simp), ?_⟩
    · intro y hy z hz
      rcases List.mem_append.1 hy with hy1 | hy1 <;> rcases List.mem_append.1 hz with hz1 | hz1
      · exact hc y hy1 z hz1
      · rw [List.mem_singleton] at hz1; rw [hz1]; exact ⟨htx y hy1, hyx y hy1⟩
      · rw [List.mem_singleton] at hy1; rw [hy1]; exact ⟨(htx z hz1).symm, fun e => (hyx z hz1 e.symm).symm⟩
      · rw [List.mem_singleton] at hy1 hz1; rw [hy1, hz1]; exact ⟨rfl, fun _ => rfl⟩
    · intro y hy
      rcases List.mem_append.1 hy with hy | hy
      · exact (htx y hy).symm
      · rw [List.mem_singleton] at hy; subst hy; rfl
    · intro k t
      rw [hsp]
      show setS _ _ _ k = some t ↔ _
      unfold setS
      by_cases hkx : k = x.index
      · subst hkx
        rw [if_pos rfl]
        constructor
        · intro e; exact .inr ⟨rfl, Option.some.inj e⟩
        · rintro (⟨y, hy, e1, e2⟩ | ⟨_, e⟩)
          · rw [← hyx y hy e1, e2]
          · rw [e]
      · rw [if_neg hkx, hf k t]
        constructor
        · exact .inl
        · rintro (h | ⟨e, _⟩)
          · exact h
          · exact absurd e.symm hkx
theorem ldInv_app : ∀ (l L : List Pc), (∀ y ∈ L ++ l, y.total ≠ 0) → LdInv L → LdInv (L ++ l)
  | [], L, _, h => by rw [List.append_nil]; exact h
  | x :: l, L, hv, h => by
    have e : L ++ x :: l = (L ++ [x]) ++ l := by simp
    rw [e] at hv ⊢
    exact ldInv_app l (L ++ [x]) hv (ldInv_snoc L x (fun y hy => hv y (List.mem_append.2 (.inl hy))) h)
theorem ldInv (L : List Pc) (hv : ∀ y ∈ L, y.total ≠ 0) : LdInv L := by
  have h0 : LdInv [] := .inr ⟨rfl, fun x hx => (nomatch hx), fun x hx => (nomatch hx), fun _ => rfl, fun k t => ⟨fun h => (by cases h), fun ⟨x, hx, _⟩ => (nomatch hx)⟩⟩
  have := ldInv_app L [] (by simpa using hv) h0
  simpa using this
theorem ld_bad {L : List Pc} (hv : ∀ y ∈ L, y.total ≠ 0) (hc : ¬ Cons L) : loadA L = ([], [], 20) := by
  unfold loadA loadS
  rcases ldInv L hv with ⟨hb, -⟩ | ⟨-, h, -⟩
  · rw [if_pos hb]
  · exact absurd h hc
theorem ld_nil : loadA [] = ([], [], 9) := rfl
/-- what the frames say, where they agree -/
theorem ld_good {L : List Pc} (hv : ∀ y ∈ L, y.total ≠ 0) (hc : Cons L) :
    (ldRun L).bad = false ∧ (∀ x ∈ L, (ldRun L).total = x.total) ∧ (L = [] → (ldRun L).total = 0) ∧ ∀ k t, (ldRun L).texts k = some t ↔ ∃ x ∈ L, x.index = k ∧ x.text = t := by
  rcases ldInv L hv with ⟨-, h⟩ | ⟨h, -, h2⟩
  · exact absurd hc h
  · exact ⟨h, h2⟩
/-- Load depends on the set of frames alone -/
theorem loadA_set {L M : List Pc} (hv : ∀ y ∈ L, y.total ≠ 0) (h : ∀ x, x ∈ L ↔ x ∈ M) : loadA L = loadA M := by
  have hv2 : ∀ y ∈ M, y.total ≠ 0 := fun y hy => hv y ((h y).2 hy)
  by_cases hc : Cons L
  · have hc2 : Cons M := cons_sub (fun x hx => (h x).2 hx) hc
    obtain ⟨b1, t1, z1, f1⟩ := ld_good hv hc
    obtain ⟨b2, t2, z2, f2⟩ := ld_good hv2 hc2
    have et : (ldRun L).total = (ldRun M).total := by
      match L, M, h, t1, z1, t2, z2 with
      | [], [], _, _, z1, _, z2 => rfl
      | [], y :: M, h, _, _, _, _ => exact absurd ((h y).2 List.mem_cons_self) (by simp)
      | x :: L, M, h, t1, _, t2, _ => rw [t1 x List.mem_cons_self, t2 x ((h x).1 List.mem_cons_self)]
    have ef : (ldRun L).texts = (ldRun M).texts := by
      funext k
      apply Option.ext
      intro t
      rw [f1 k t, f2 k t]
      constructor
      · rintro ⟨x, hx, e⟩; exact ⟨x, (h x).1 hx, e⟩
      · rintro ⟨x, hx, e⟩; exact ⟨x, (h x).2 hx, e⟩
    unfold loadA loadS
    rw [b1, b2, et, ef]
  · have hc2 : ¬ Cons M := fun hc2 => hc (cons_sub (fun x hx => (h x).1 hx) hc2)
    rw [ld_bad hv hc, ld_bad hv2 hc2]
/-- Load of frames that are all the pieces of one text but some -/
theorem loadA_known {L : List Pc} {T : Nat} {f : Int → Option ByteArray} (hT : 1 ≤ T) (hne : L ≠ []) (ht : ∀ x ∈ L, x.total = (T : Int)) (hf : ∀ k t, f k = some t ↔ ∃ x ∈ L, x.index = k ∧ x.text = t) : loadA L = loadS ⟨T, f, false⟩ := by
  have hv : ∀ y ∈ L, y.total ≠ 0 := fun y hy => by rw [ht y hy]; omega
  have hc : Cons L := fun x hx y hy => ⟨by rw [ht x hx, ht y hy], fun e => by
    have h1 := (hf x.index x.text).2 ⟨x, hx, rfl, rfl⟩
    have h2 := (hf x.index y.text).2 ⟨y, hy, e.symm, rfl⟩
    rw [h1] at h2
    exact Option.some.inj h2⟩
  obtain ⟨b1, t1, z1, f1⟩ := ld_good hv hc
  have et : (ldRun L).total = (T : Int) := by
    match L, hne, t1, ht with
    | x :: L, _, t1, ht => rw [t1 x List.mem_cons_self, ht x List.mem_cons_self]
  have ef : (ldRun L).texts = f := by
    funext k
    apply Option.ext
    intro t
    rw [f1 k t, hf k t]
  unfold loadA loadS
  rw [b1, et, ef]
/-- the reference's way: the first frame of an index -/
def findA (L : List Pc) (k : Int) : Option ByteArray := (L.find? fun x => decide (x.index = k)).map Pc.text
theorem findA_some {L : List Pc} {k : Int} {t : ByteArray} (hc : Cons L) : findA L k = some t ↔ ∃ x ∈ L, x.index = k ∧ x.text = t := by
  unfold findA
  rw [Option.map_eq_some_iff]
  constructor
  · rintro ⟨x, hx, e⟩
    exact ⟨x, List.mem_of_find?_eq_some hx, by have := List.find?_some hx; simpa using this, e⟩
  · rintro ⟨x, hx, e1, e2⟩
    rcases hf : L.find? (fun x => decide (x.index = k)) with _ | y
    · have := List.find?_eq_none.1 hf x hx
      simp [e1] at this
    · refine ⟨y, hf, ?_⟩
      have h1 := List.mem_of_find?_eq_some hf
      have h2 : y.index = k := by have := List.find?_some hf; simpa using this
      rw [← e2]
      exact (hc y h1 x hx).2 (by omega)
/-- the test that the reference makes at a frame -/
def refOk (L : List Pc) (T : Int) (x : Pc) : Prop := x.total = T ∧ (findA L x.index).getD ByteArray.empty = x.text
theorem refOk_cons {L : List Pc} {T : Int} (h : ∀ x ∈ L, refOk L T x) : Cons L := by
  intro x hx y hy
  obtain ⟨h1, h2⟩ := h x hx
  obtain ⟨h3, h4⟩ := h y hy
  refine ⟨by omega, fun e => ?_⟩
  rw [← h2, ← h4, e]
theorem refOk_no {L : List Pc} {y z : Pc} (hy : y ∈ L) (hz : z ∈ L) (h : ¬ refOk L y.total z) : ¬ Cons L := by
  intro hc
  apply h
  refine ⟨(hc z hz y hy).1, ?_⟩
  rw [(findA_some hc (k := z.index) (t := z.text)).2 ⟨z, hz, rfl, rfl⟩]
  rfl
theorem loadA_find {L : List Pc} {y : Pc} (hv : ∀ y ∈ L, y.total ≠ 0) (hy : y ∈ L) (hc : Cons L) : loadA L = loadS ⟨y.total, findA L, false⟩ := by
  obtain ⟨b1, t1, z1, f1⟩ := ld_good hv hc
  have ef : (ldRun L).texts = findA L := by
    funext k
    apply Option.ext
    intro t
    rw [f1 k t, findA_some hc]
  unfold loadA loadS
  rw [b1, t1 y hy, ef]
theorem missN_len (f : Int → Option ByteArray) (n : Nat) : (missN f n).length ≤ n := by
  unfold missN
  exact Nat.le_trans (List.length_filter_le _ _) (by rw [List.length_range]; exact Nat.le_refl _)
theorem joinN_len (f : Int → Option ByteArray) (h : ∀ k t, f k = some t → t.size ≤ 64) (n : Nat) : (joinN f n).length ≤ 64 * n := by
  induction n with
  | zero => simp [joinN]
  | succ n ih =>
    rw [joinN_succ, List.length_append]
    have : ((f (n : Int)).getD ByteArray.empty).data.toList.length ≤ 64 := by
      rcases hf : f (n : Int) with _ | t
      · simp
      · exact h _ t hf
    omega
/-- what is left to show at the end of Load -/
theorem ld_end {L : List Pc} (hv : ∀ y ∈ L, 1 ≤ y.total ∧ y.total ≤ 99999 ∧ y.text.size = 64) (hb : (ldRun L).bad = false) :
    ∃ n : Nat, (ldRun L).total = (n : Int) ∧ n ≤ 99999 ∧ (∀ k t, (ldRun L).texts k = some t → t.size = 64) ∧
      loadA L = if n = 0 then ([], [], 9) else if missN (ldRun L).texts n = [] then (joinN (ldRun L).texts n, [], 0) else ([], missN (ldRun L).texts n, 19) := by
  have hA : loadA L = loadS (ldRun L) := rfl
  rcases ldInv L (fun y hy => by have := (hv y hy).1; omega) with ⟨h, -⟩ | ⟨-, -, ht, h0, hf⟩
  · rw [hb] at h; cases h
  · have hsz : ∀ k t, (ldRun L).texts k = some t → t.size = 64 := by
      intro k t e
      obtain ⟨x, hx, -, e2⟩ := (hf k t).1 e
      rw [← e2]; exact (hv x hx).2.2
    have hT : 0 ≤ (ldRun L).total ∧ (ldRun L).total ≤ 99999 := by
      match L, ht, h0, hv with
      | [], _, h0, _ => rw [h0 rfl]; decide
      | y :: L, ht, _, hv => rw [ht y List.mem_cons_self]; have := hv y List.mem_cons_self; omega
    refine ⟨(ldRun L).total.toNat, by omega, by omega, hsz, ?_⟩
    rw [hA]
    unfold loadS
    rw [hb, if_neg (by decide)]
    by_cases h : (ldRun L).total = 0
    · rw [if_pos h, if_pos (show (ldRun L).total.toNat = 0 by omega)]
    · rw [if_neg h, if_neg (show ¬ (ldRun L).total.toNat = 0 by omega)]
def intsN (l : List Nat) : List Value := l.map fun (n : Nat) => Value.int .i64 (n : Int)
theorem intsN_snoc (l : List Nat) (n : Nat) : intsN (l ++ [n]) = intsN l ++ [.int .i64 (n : Int)] := by simp [intsN]
theorem intInfo : (Tryz.prog.info? 3).map (fun i => (i.zero, i.size, i.bytes)) = some (some (.int .i64 0), 1, 8) := by kernel_rfl
theorem own_set {w : World} {base : Nat} {e : TypeId} {size n : Nat} {v : Value} {xs : List Value} (h : w.ownsRow base e size v n xs) {p : Addr} (hp : p.block < base) (u : Value) : (w.setCell p u).ownsRow base e size v n xs := by
  refine ⟨h.1, ?_⟩
  rcases h.2 with h | ⟨g, cap, cur, hv, hB, hg, h1, h2, h3, h4⟩
  · exact .inl h
  · exact .inr ⟨g, cap, cur, hv, hB, by rw [Below.heap_setCell _ _ _ _ (by omega)]; exact hg, h1, h2, h3, h4⟩
theorem own_base {w : World} {base b2 : Nat} {e : TypeId} {size n : Nat} {v : Value} {xs : List Value} (h : w.ownsRow base e size v n xs) (hb : b2 ≤ base) : w.ownsRow b2 e size v n xs := by
  refine ⟨h.1, ?_⟩
  rcases h.2 with h | ⟨g, cap, cur, hv, hB, hg, h1, h2, h3, h4⟩
  · exact .inl h
  · exact .inr ⟨g, cap, cur, hv, Nat.le_trans hb hB, hg, h1, h2, h3, h4⟩
end Go.Proofs.YtjmglbppmolipaaGreatDoor
namespace Go.Proofs.YtjmglbppmolipaaGreatDoor
set_option linter.unusedVariables false

theorem frameAt_no {s : List UInt8} {arch i : Nat} (h : isPl s i = false) : frameAt s arch i = [] := by unfold frameAt; rw [h]; rfl
theorem frameAt_bad {s : List UInt8} {arch i : Nat} (h : (decodeA ((s.drop (i + 16)).take 752)).2 ≠ 0) : frameAt s arch i = [] := by
  unfold frameAt
  split
  · rw [if_neg (fun e => h e.1)]
  · rfl
theorem enc_len {p : Pc} (h : p.text.size = 64) : (encL p).length = 768 := by unfold encL; rw [List.length_append, cells_len h]; rfl
theorem win_at (a x : List UInt8) (k : Nat) : (a ++ x).drop (a.length + k) = x.drop k := by rw [← List.drop_drop, List.drop_left]
theorem frameAt_enc (p : Pc) (a b : List UInt8) (ha : p.arch < 4294967296) (hc : checkZ p.index p.total p.text = 0) (arch : Nat) :
    frameAt (a ++ (encL p ++ b)) arch a.length = if p.arch = arch then [p] else [] := by
  have h64 := (check_ok hc).2.2.2.2.1
  have h1 : isPl (a ++ (encL p ++ b)) a.length = true := by
    unfold isPl
    rw [List.length_append, List.length_append, enc_len h64, decide_eq_true (by omega), Bool.true_and, decide_eq_true_eq, List.drop_left]
    unfold encL
    rw [List.append_assoc, List.take_left' (by rfl)]
  have h2 : ((a ++ (encL p ++ b)).drop (a.length + 16)).take 752 = cellsB (sealB (headB p)) := by
    rw [win_at]
    unfold encL
    rw [List.append_assoc, List.drop_left' (by rfl), List.take_left' (cells_len h64)]
  unfold frameAt
  rw [h1, if_pos rfl, h2, decode_cells _ (seal_len h64), text_back p ha hc]
  simp only [true_and]
theorem flatMap_none {α : Type} (f : Nat → List α) : ∀ m, (∀ i, i < m → f i = []) → (List.range m).flatMap f = []
  | 0, _ => rfl
  | m + 1, h => by
    rw [List.range_succ, List.flatMap_append, flatMap_none f m (fun i hi => h i (by omega))]
    simp [h m (by omega)]
theorem flatMap_one {α : Type} (f : Nat → List α) (n : Nat) : ∀ m, n < m → (∀ i, i < m → i ≠ n → f i = []) → (List.range m).flatMap f = f n
  | 0, h, _ => absurd h (Nat.not_lt_zero _)
  | m + 1, h, hi => by
    rw [List.range_succ, List.flatMap_append]
    by_cases e : n = m
    · rw [flatMap_none f m (fun i h1 => hi i (by omega) (by omega))]
      simp [e]
    · rw [flatMap_one f n m (by omega) (fun i h1 h2 => hi i (by omega) h2)]
      simp [hi m (by omega) (fun e2 => e e2.symm)]
/-- ahead of a frame that stands behind cells 0 there is no mark -/
theorem isPl_pre (x : List UInt8) (n i : Nat) (h : i < n) : isPl (List.replicate n 48 ++ (plainM ++ x)) i = false := by
  refine isPl_no (j := 5) (by decide) ?_
  have e : List.replicate n (48 : UInt8) ++ (plainM ++ x) = List.replicate (n + 5) 48 ++ (plainM.drop 5 ++ x) := by
    rw [← List.replicate_append_replicate]
    rw [List.append_assoc]
    rfl
  rw [e]
  unfold cellAt
  rw [List.getD_eq_getElem?_getD, List.getElem?_append_left (by rw [List.length_replicate]; omega), List.getElem?_replicate]
  rw [if_pos (by omega)]
  decide
theorem mark_no : ∀ d : Fin 16, 1 ≤ d.val → ∃ j : Fin 16, d.val + j.val < 16 ∧ plainM[d.val + j.val]? ≠ plainM[j.val]? := by decide
/-- a mark does not overlap a mark -/
theorem isPl_over (a x : List UInt8) (d : Nat) (h1 : 1 ≤ d) (h2 : d < 16) : isPl (a ++ (plainM ++ x)) (a.length + d) = false := by
  obtain ⟨j, hj, hne⟩ := mark_no ⟨d, h2⟩ h1
  refine isPl_no (j := j.val) j.isLt ?_
  unfold cellAt
  have hl : plainM.length = 16 := rfl
  rw [List.getD_eq_getElem?_getD, List.getElem?_append_right (by omega), Nat.add_assoc, Nat.add_sub_cancel_left, List.getElem?_append_left (by rw [hl]; exact hj)]
  intro e
  apply hne
  have hm : plainM[d + j.val]? = some (plainM[d + j.val]'(by rw [hl]; exact hj)) := List.getElem?_eq_getElem _
  rw [hm] at e
  rw [hm, List.getElem?_eq_getElem (show j.val < plainM.length from j.isLt)]
  exact congrArg some e
theorem dec_63 {W : List UInt8} (h : (63 : UInt8) ∈ W) : (decodeA W).2 ≠ 0 := by
  unfold decodeA
  split
  · exact fun e => by cases e
  split
  · exact fun e => by cases e
  rw [if_pos (by simpa using h)]
  exact fun e => by cases e
theorem dec_zero {W : List UInt8} (hl : W.length = 752) (h : (W.drop 744).take 8 = List.replicate 8 48) : (decodeA W).2 ≠ 0 := by
  unfold decodeA
  split
  · exact fun e => by cases e
  split
  · exact fun e => by cases e
  split
  · exact fun e => by cases e
  unfold textA
  rw [if_neg]
  · exact fun e => by cases e
  · intro e
    have hb : (bytesC W).length = 94 := by rw [bytesC_len, hl]
    have h1 : ((bytesC W).drop 84)[9]? = some 0 := by
      rw [List.getElem?_drop]
      unfold bytesC
      rw [hl, List.getElem?_map, List.getElem?_range (by decide)]
      show some (byteC ((W.drop (93 * 8)).take 8)) = some 0
      rw [show 93 * 8 = 744 from rfl, h]
      rfl
    rw [e] at h1
    unfold lowD at h1
    rw [List.getElem?_append_right (by rw [lowD_len]; exact Nat.le_refl _), lowD_len] at h1
    have h2 : UInt8.ofNat (48 + crcS ((bytesC W).take 84) % 10) = 0 := by simpa using h1
    have h3 := (digC_digit (crcS ((bytesC W).take 84))).1
    rw [h2] at h3
    exact absurd h3 (by decide)
/-- a frame between cells 0 and unreadable cells is the only one -/
theorem framesP_around (p : Pc) (n b arch : Nat) (ha : p.arch = arch) (hlt : arch < 4294967296) (hc : checkZ p.index p.total p.text = 0) :
    framesP arch (BA (List.replicate n 48 ++ (encL p ++ List.replicate b 63))) = [p] := by
  have h64 := (check_ok hc).2.2.2.2.1
  unfold framesP framesTo
  rw [BA_data, BA_size]
  have hlen : (List.replicate n (48 : UInt8) ++ (encL p ++ List.replicate b 63)).length = n + (768 + b) := by
    rw [List.length_append, List.length_append, enc_len h64, List.length_replicate, List.length_replicate]
  rw [flatMap_one _ n _ (by omega) ?_]
  · have := frameAt_enc p (List.replicate n 48) (List.replicate b 63) (by omega) hc arch
    rw [List.length_replicate, if_pos ha] at this
    exact this
  · intro i hi hne
    rcases Nat.lt_or_ge i n with h | h
    · refine frameAt_no ?_
      have := isPl_pre (cellsB (sealB (headB p)) ++ List.replicate b 63) n i h
      unfold encL
      rw [List.append_assoc]
      exact this
    · refine frameAt_bad (dec_63 ?_)
      refine List.mem_of_getElem? (i := 751) ?_
      rw [List.getElem?_take_of_lt (by decide), List.getElem?_drop, List.getElem?_append_right (by rw [List.length_replicate]; omega), List.getElem?_append_right (by rw [List.length_replicate, enc_len h64]; omega), List.getElem?_replicate, if_pos]
      rw [List.length_replicate, enc_len h64]; omega
theorem framesP_enc (p : Pc) (arch : Nat) (ha : p.arch = arch) (hlt : arch < 4294967296) (hc : checkZ p.index p.total p.text = 0) : framesP arch (BA (encL p)) = [p] := by
  have := framesP_around p 0 0 arch ha hlt hc
  simpa using this
theorem framesL_enc (arch : Nat) (hlt : arch < 4294967296) : ∀ ps : List Pc, (∀ p ∈ ps, p.arch = arch ∧ checkZ p.index p.total p.text = 0) → framesL (ps.map fun p => BA (encL p)) arch = ps
  | [], _ => rfl
  | p :: ps, h => by
    obtain ⟨h1, h2⟩ := h p List.mem_cons_self
    have ih := framesL_enc arch hlt ps (fun q hq => h q (List.mem_cons_of_mem _ hq))
    unfold framesL at ih ⊢
    rw [List.map_cons, List.flatMap_cons, ih, framesP_enc p arch h1 hlt h2]
    rfl
/-- frames of another archive are not found -/
theorem framesP_other (p : Pc) (arch : Nat) (ha : p.arch ≠ arch) (hlt : p.arch < 4294967296) (hc : checkZ p.index p.total p.text = 0) : framesP arch (BA (encL p)) = [] := by
  have h64 := (check_ok hc).2.2.2.2.1
  unfold framesP framesTo
  rw [BA_data, BA_size, enc_len h64]
  have := frameAt_enc p [] [] hlt hc arch
  rw [if_neg ha, List.nil_append, List.append_nil] at this
  simpa using this
theorem framesL_other (arch : Nat) : ∀ ps : List Pc, (∀ p ∈ ps, p.arch ≠ arch ∧ p.arch < 4294967296 ∧ checkZ p.index p.total p.text = 0) → framesL (ps.map fun p => BA (encL p)) arch = []
  | [], _ => rfl
  | p :: ps, h => by
    obtain ⟨h1, h2, h3⟩ := h p List.mem_cons_self
    have ih := framesL_other arch ps (fun q hq => h q (List.mem_cons_of_mem _ hq))
    unfold framesL at ih ⊢
    rw [List.map_cons, List.flatMap_cons, ih, framesP_other p arch h1 h2 h3]
    rfl
/-- a frame with an unreadable cell is not found -/
theorem framesP_bent (p : Pc) (k arch : Nat) (hk : k < 768) (hc : checkZ p.index p.total p.text = 0) : framesP arch (BA ((encL p).take k ++ [63] ++ (encL p).drop (k + 1))) = [] := by
  have h64 := (check_ok hc).2.2.2.2.1
  have hlen : ((encL p).take k ++ [63] ++ (encL p).drop (k + 1)).length = 768 := by
    rw [List.length_append, List.length_append, List.length_take, List.length_drop, enc_len h64]
    simp; omega
  have hget : ((encL p).take k ++ [63] ++ (encL p).drop (k + 1))[k]? = some 63 := by
    rw [List.getElem?_append_left (by rw [List.length_append, List.length_take, enc_len h64]; simp; omega), List.getElem?_append_right (by rw [List.length_take]; exact Nat.min_le_left _ _), List.length_take, enc_len h64, Nat.min_eq_left (by omega), Nat.sub_self]
    rfl
  unfold framesP framesTo
  rw [BA_data, BA_size, hlen]
  generalize (encL p).take k ++ [63] ++ (encL p).drop (k + 1) = X at *
  suffices h : frameAt X arch 0 = [] by simpa using h
  rcases Nat.lt_or_ge k 16 with h | h
  · refine frameAt_no (isPl_no (j := k) h ?_)
    unfold cellAt
    rw [List.getD_eq_getElem?_getD, Nat.zero_add, hget]
    have : ∀ j : Fin 16, (63 : UInt8) ≠ plainM[j.val]'(by exact j.isLt) := by decide
    exact this ⟨k, h⟩
  · refine frameAt_bad (dec_63 ?_)
    refine List.mem_of_getElem? (i := k - 16) ?_
    rw [List.getElem?_take_of_lt (by omega), List.getElem?_drop, show 0 + 16 + (k - 16) = k by omega, hget]
/-- a frame between cells 0 is there, and none of another archive -/
theorem framesP_zero (p : Pc) (n b arch : Nat) (hlt : p.arch < 4294967296) (hc : checkZ p.index p.total p.text = 0) (ha : p.arch ≠ arch) :
    framesP arch (BA (List.replicate n 48 ++ (encL p ++ List.replicate b 48))) = [] := by
  have h64 := (check_ok hc).2.2.2.2.1
  unfold framesP framesTo
  rw [BA_data, BA_size]
  have hlen : (List.replicate n (48 : UInt8) ++ (encL p ++ List.replicate b 48)).length = n + (768 + b) := by
    rw [List.length_append, List.length_append, enc_len h64, List.length_replicate, List.length_replicate]
  refine flatMap_none _ _ (fun i hi => ?_)
  rcases Nat.lt_trichotomy i n with h | h | h
  · refine frameAt_no ?_
    have := isPl_pre (cellsB (sealB (headB p)) ++ List.replicate b 48) n i h
    unfold encL
    rw [List.append_assoc]
    exact this
  · have := frameAt_enc p (List.replicate n 48) (List.replicate b 48) hlt hc arch
    rw [List.length_replicate, if_neg ha] at this
    rw [h]; exact this
  · rcases Nat.lt_or_ge (i - n) 16 with h2 | h2
    · refine frameAt_no ?_
      have := isPl_over (List.replicate n 48) (cellsB (sealB (headB p)) ++ List.replicate b 48) (i - n) (by omega) h2
      rw [List.length_replicate, show n + (i - n) = i by omega] at this
      unfold encL
      rw [List.append_assoc]
      exact this
    · refine frameAt_bad (dec_zero ?_ ?_)
      · rw [List.length_take, List.length_drop, hlen]; omega
      · apply List.ext_getElem?
        intro j
        rcases Nat.lt_or_ge j 8 with hj | hj
        · rw [List.getElem?_take_of_lt hj, List.getElem?_drop, List.getElem?_take_of_lt (by omega), List.getElem?_drop, List.getElem?_append_right (by rw [List.length_replicate]; omega), List.getElem?_append_right (by rw [List.length_replicate, enc_len h64]; omega), List.getElem?_replicate, List.getElem?_replicate, if_pos hj, if_pos]
          rw [List.length_replicate, enc_len h64]; omega
        · rw [List.getElem?_eq_none (by rw [List.length_take]; omega), List.getElem?_eq_none (by rw [List.length_replicate]; exact hj)]
theorem framesP_has (p : Pc) (n b : Nat) (hlt : p.arch < 4294967296) (hc : checkZ p.index p.total p.text = 0) :
    p ∈ framesP p.arch (BA (List.replicate n 48 ++ (encL p ++ List.replicate b 48))) := by
  have h64 := (check_ok hc).2.2.2.2.1
  unfold framesP framesTo
  rw [BA_data, BA_size, List.mem_flatMap]
  refine ⟨n, ?_, ?_⟩
  · rw [List.mem_range, List.length_append, List.length_append, enc_len h64, List.length_replicate]; omega
  · have := frameAt_enc p (List.replicate n 48) (List.replicate b 48) hlt hc p.arch
    rw [List.length_replicate, if_pos rfl] at this
    rw [this]
    exact List.mem_singleton.2 rfl
theorem framesL_valid (rows : List ByteArray) (arch : Nat) : ∀ y ∈ framesL rows arch, y.arch = arch ∧ checkZ y.index y.total y.text = 0 := by
  intro y hy
  unfold framesL at hy
  obtain ⟨s, -, hy⟩ := List.mem_flatMap.1 hy
  unfold framesP framesTo at hy
  obtain ⟨i, -, hy⟩ := List.mem_flatMap.1 hy
  unfold frameAt at hy
  split at hy
  · split at hy
    · rename_i h
      rw [List.mem_singleton] at hy
      rw [hy]
      exact ⟨h.2, decode_good h.1⟩
    · cases hy
  · cases hy
theorem framesL_sizes (rows : List ByteArray) (arch : Nat) : ∀ y ∈ framesL rows arch, 1 ≤ y.total ∧ y.total ≤ 99999 ∧ y.text.size = 64 := by
  intro y hy
  obtain ⟨c1, c2, c3, c4, c5, -⟩ := check_ok (framesL_valid rows arch y hy).2
  exact ⟨c1, c2, c5⟩
theorem framesL_append (a b : List ByteArray) (arch : Nat) : framesL (a ++ b) arch = framesL a arch ++ framesL b arch := by unfold framesL; rw [List.flatMap_append]
end Go.Proofs.YtjmglbppmolipaaGreatDoor
namespace Go.Proofs.YtjmglbppmolipaaGreatDoor
set_option linter.unusedVariables false

theorem full_data (s : ByteArray) : (fullB s).data.toList = s.data.toList ++ List.replicate (totalN s.size * 64 - s.size) 32 := by unfold fullB; rw [app_data]
theorem piece_valid (s : ByteArray) (arch i : Nat) (h : i < totalN s.size) (hs : s.size ≤ 40000) (hp : prB s.data.toList = true) :
    checkZ (pieceP s arch i).index (pieceP s arch i).total (pieceP s arch i).text = 0 := by
  have ht : totalN s.size ≤ 99999 := by unfold totalN; omega
  have hsz : ((fullB s).extract (i * 64) ((i + 1) * 64)).size = 64 := by rw [ByteArray.size_extract, full_size]; omega
  have hpr : prB ((fullB s).extract (i * 64) ((i + 1) * 64)).data.toList = true := by
    unfold prB at hp ⊢
    rw [List.all_eq_true] at hp ⊢
    intro c hc
    rw [ext_BA, BA_data] at hc
    have h1 := List.mem_of_mem_drop (List.mem_of_mem_take hc)
    rw [full_data] at h1
    rcases List.mem_append.1 h1 with h1 | h1
    · exact hp c h1
    · rw [List.eq_of_mem_replicate h1]; decide
  show checkZ (i : Int) (totalN s.size : Int) ((fullB s).extract (i * 64) ((i + 1) * 64)) = 0
  unfold checkZ
  rw [if_neg (by omega), if_neg]
  rw [hsz, hpr]
  simp
theorem pieces_valid (s : ByteArray) (arch : Nat) (hs : s.size ≤ 40000) (hp : prB s.data.toList = true) : ∀ p ∈ piecesP s arch, p.arch = arch ∧ checkZ p.index p.total p.text = 0 := by
  intro p h
  unfold piecesP at h
  obtain ⟨i, hi, rfl⟩ := List.mem_map.1 h
  exact ⟨rfl, piece_valid s arch i (List.mem_range.1 hi) hs hp⟩
theorem joinN_full (s : ByteArray) (f : Int → Option ByteArray) (n : Nat) (hn : n ≤ totalN s.size) (hf : ∀ k, k < n → f ((k : Nat) : Int) = some ((fullB s).extract (k * 64) ((k + 1) * 64))) : joinN f n = (fullB s).data.toList.take (n * 64) := by
  induction n with
  | zero => simp [joinN]
  | succ n ih =>
    rw [joinN_succ, ih (by omega) (fun k hk => hf k (by omega)), hf n (by omega), Option.getD_some, ext_BA, BA_data, show (n + 1) * 64 - n * 64 = 64 by omega, Nat.succ_mul, List.take_add]
/-- Load of the pieces whose index is kept -/
theorem loadA_some (s : ByteArray) (arch : Nat) (keep : Nat → Bool) (L : List Pc) (hset : ∀ x, x ∈ L ↔ ∃ i, i < totalN s.size ∧ keep i = true ∧ x = pieceP s arch i) (hne : L ≠ []) :
    loadA L = if (List.range (totalN s.size)).filter (fun i => !keep i) = [] then ((fullB s).data.toList, [], 0) else ([], (List.range (totalN s.size)).filter (fun i => !keep i), 19) := by
  obtain ⟨T, hT⟩ : ∃ T, T = totalN s.size := ⟨_, rfl⟩
  obtain ⟨f, hf⟩ : ∃ f : Int → Option ByteArray, f = fun k => if 0 ≤ k ∧ k < (T : Int) ∧ keep k.toNat = true then some ((fullB s).extract (k.toNat * 64) ((k.toNat + 1) * 64)) else none := ⟨_, rfl⟩
  have hfk : ∀ k t, f k = some t ↔ ∃ x ∈ L, x.index = k ∧ x.text = t := by
    intro k t
    rw [hf]
    simp only
    constructor
    · intro h
      split at h
      · rename_i hc
        refine ⟨pieceP s arch k.toNat, (hset _).2 ⟨k.toNat, by omega, hc.2.2, rfl⟩, ?_, Option.some.inj h⟩
        show ((k.toNat : Nat) : Int) = k
        omega
      · cases h
    · rintro ⟨x, hx, e1, e2⟩
      obtain ⟨i, hi, hk, rfl⟩ := (hset x).1 hx
      have e1' : (i : Int) = k := e1
      subst e1'
      rw [if_pos ⟨by omega, by omega, by rw [Int.toNat_natCast]; exact hk⟩, Int.toNat_natCast]
      exact congrArg some e2
  have hT1 : 1 ≤ T := by
    obtain ⟨x, hx⟩ := List.exists_mem_of_ne_nil L hne
    obtain ⟨i, hi, -⟩ := (hset x).1 hx
    omega
  have ht : ∀ x ∈ L, x.total = (T : Int) := by
    intro x hx
    obtain ⟨i, hi, -, rfl⟩ := (hset x).1 hx
    show ((totalN s.size : Nat) : Int) = (T : Int)
    rw [hT]
  rw [loadA_known hT1 hne ht hfk]
  have hm : missN f T = (List.range T).filter (fun i => !keep i) := by
    unfold missN
    refine List.filter_congr ?_
    intro i hi
    have hi' := List.mem_range.1 hi
    rw [hf]
    simp only
    by_cases hk : keep i = true
    · rw [if_pos ⟨by omega, by omega, by rw [Int.toNat_natCast]; exact hk⟩, hk]; rfl
    · rw [if_neg (by rw [Int.toNat_natCast]; exact fun h => hk h.2.2), Bool.not_eq_true] at *
      rw [hk]; rfl
  unfold loadS
  simp only [Bool.false_eq_true, if_false]
  rw [if_neg (show ¬ (T : Int) = 0 by omega), Int.toNat_natCast, hm, ← hT]
  by_cases hz : (List.range T).filter (fun i => !keep i) = []
  · rw [if_pos hz, if_pos hz]
    have hj := joinN_full s f T (by omega) (by
      intro k hk
      have hkk : keep k = true := by
        have h1 := List.filter_eq_nil_iff.1 hz k (List.mem_range.2 hk)
        simpa using h1
      rw [hf]
      simp only
      rw [if_pos ⟨by omega, by omega, by rw [Int.toNat_natCast]; exact hkk⟩, Int.toNat_natCast])
    rw [hj, List.take_of_length_le]
    show (fullB s).size ≤ _
    rw [full_size, hT]
    exact Nat.le_refl _
  · rw [if_neg hz, if_neg hz]
theorem loadA_all (s : ByteArray) (arch : Nat) (L : List Pc) (hset : ∀ x, x ∈ L ↔ x ∈ piecesP s arch) (hT : 1 ≤ totalN s.size) : loadA L = ((fullB s).data.toList, [], 0) := by
  have h0 : (List.range (totalN s.size)).filter (fun i => !((fun _ => true) i)) = [] := by simp
  have := loadA_some s arch (fun _ => true) L (fun x => by
    rw [hset]
    unfold piecesP
    rw [List.mem_map]
    constructor
    · rintro ⟨i, hi, rfl⟩; exact ⟨i, List.mem_range.1 hi, rfl, rfl⟩
    · rintro ⟨i, hi, -, rfl⟩; exact ⟨i, List.mem_range.2 hi, rfl⟩) (by
    intro e
    have h1 : pieceP s arch 0 ∈ L := (hset _).2 (by unfold piecesP; exact List.mem_map.2 ⟨0, List.mem_range.2 (by omega), rfl⟩)
    rw [e] at h1
    cases h1)
  rw [this, if_pos h0]
end Go.Proofs.YtjmglbppmolipaaGreatDoor
