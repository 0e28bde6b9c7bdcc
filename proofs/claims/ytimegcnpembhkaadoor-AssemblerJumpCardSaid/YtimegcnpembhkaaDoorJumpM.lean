/- The law AssemblerJump: the run of the text. -/
import Derived.Test.YtimegcnpembhkaaDoorMachJ4
import Derived.Test.YtimegcnpembhkaaDoorJumpC
namespace Go.Proofs.YtimegcnpembhkaaDoor
open Go.Lib Dec
set_option linter.unusedVariables false

/-- the machine on a text, at one of its bytes -/
def MT (o : Nat) (T : Bytes) (i : Nat) (data : List Nat) (d : Bool) (out : Bytes) : MS := ⟨memT o T, o + i, data, [], [], out, d, none⟩
theorem memT_at (o : Nat) (T : Bytes) (i : Nat) (c : UInt8) (r : Bytes) (h : T.drop i = c :: r) : memT o T (o + i) = c.toNat ∧ i < T.length ∧ T.drop (i + 1) = r := by
  have hi : i < T.length := by
    rcases Nat.lt_or_ge i T.length with h1 | h1
    · exact h1
    · rw [List.drop_of_length_le h1] at h; cases h
  rw [List.drop_eq_getElem_cons hi] at h
  injection h with h1 h2
  refine ⟨?_, hi, h2⟩
  unfold memT
  rw [if_pos ⟨by omega, by omega⟩, show o + i - o = i by omega, List.getElem?_eq_getElem hi, h1]
  rfl
theorem run_step (m m' : MS) (k n : Nat) (hpc : m.pc < 262144) (h36 : m.mem m.pc ≠ 36) (h : stepS { m with pc := m.pc + 1 } (m.mem m.pc) = some m') : runS (k + 1) n m = runS k (n + 1) { m' with digit := digN (m.mem m.pc) } := by
  rw [runS, if_neg (by omega), if_neg h36, h]
theorem fold_ge (ds : Bytes) : ∀ v : Nat, v ≤ ds.foldl (fun n c => 10 * n + (c.toNat - 48)) v := by
  induction ds with
  | nil => intro v; exact Nat.le_refl v
  | cons c ds ih =>
    intro v
    rw [List.foldl_cons]
    have := ih (10 * v + (c.toNat - 48))
    omega
section
variable {o : Nat} {T : Bytes} (hT : o + T.length ≤ 262144)
include hT
theorem run_sp (i k n : Nat) (data : List Nat) (d : Bool) (out r : Bytes) (h : T.drop i = 32 :: r) : runS (k + 1) n (MT o T i data d out) = runS k (n + 1) (MT o T (i + 1) data false out) ∧ T.drop (i + 1) = r := by
  obtain ⟨h1, h2, h3⟩ := memT_at o T i 32 r h
  refine ⟨?_, h3⟩
  have hm : (MT o T i data d out).mem (MT o T i data d out).pc = 32 := h1
  rw [run_step (MT o T i data d out) { MT o T i data d out with pc := (MT o T i data d out).pc + 1 } k n (by show o + i < _; omega) (by rw [hm]; decide) (by rw [hm]; rfl), hm]
  rfl
theorem run_d0 (i k n : Nat) (data : List Nat) (out r : Bytes) (c : UInt8) (hc : dgB c = true) (hd : data.length < 256) (h : T.drop i = c :: r) : runS (k + 1) n (MT o T i data false out) = runS k (n + 1) (MT o T (i + 1) (data ++ [c.toNat - 48]) true out) ∧ T.drop (i + 1) = r := by
  obtain ⟨h1, h2, h3⟩ := memT_at o T i c r h
  refine ⟨?_, h3⟩
  obtain ⟨c1, c2⟩ := (dgB_iff c).1 hc
  have hm : (MT o T i data false out).mem (MT o T i data false out).pc = c.toNat := h1
  have hdg : digN c.toNat = true := by unfold digN; rw [decide_eq_true c1, decide_eq_true c2]; rfl
  rw [run_step (MT o T i data false out) { MT o T i data false out with pc := (MT o T i data false out).pc + 1, data := data ++ [c.toNat - 48] } k n (by show o + i < _; omega) (by rw [hm]; omega) (by
    rw [hm]
    unfold stepS
    rw [if_pos hdg]
    unfold MT
    dsimp only
    rw [if_neg (by decide)]
    unfold pushS
    exact if_pos hd), hm, hdg]
  rfl
theorem run_d1 (i k n v : Nat) (data : List Nat) (out r : Bytes) (c : UInt8) (hc : dgB c = true) (hv : 10 * v + (c.toNat - 48) < 4294967296) (h : T.drop i = c :: r) : runS (k + 1) n (MT o T i (data ++ [v]) true out) = runS k (n + 1) (MT o T (i + 1) (data ++ [10 * v + (c.toNat - 48)]) true out) ∧ T.drop (i + 1) = r := by
  obtain ⟨h1, h2, h3⟩ := memT_at o T i c r h
  refine ⟨?_, h3⟩
  obtain ⟨c1, c2⟩ := (dgB_iff c).1 hc
  have hm : (MT o T i (data ++ [v]) true out).mem (MT o T i (data ++ [v]) true out).pc = c.toNat := h1
  have hdg : digN c.toNat = true := by unfold digN; rw [decide_eq_true c1, decide_eq_true c2]; rfl
  rw [run_step (MT o T i (data ++ [v]) true out) { MT o T i (data ++ [v]) true out with pc := (MT o T i (data ++ [v]) true out).pc + 1, data := data ++ [10 * v + (c.toNat - 48)] } k n (by show o + i < _; omega) (by rw [hm]; omega) (by
    rw [hm]
    unfold stepS
    rw [if_pos hdg]
    unfold MT
    dsimp only
    rw [if_pos rfl, List.dropLast_concat, List.getLast?_concat, Option.getD_some, Nat.mul_comm v 10, Nat.mod_eq_of_lt hv]), hm, hdg]
  rfl
theorem run_dot (i k n v : Nat) (data : List Nat) (d : Bool) (out r : Bytes) (h : T.drop i = 46 :: r) : runS (k + 1) n (MT o T i (data ++ [v]) d out) = runS k (n + 1) (MT o T (i + 1) data false (out ++ [UInt8.ofNat v])) ∧ T.drop (i + 1) = r := by
  obtain ⟨h1, h2, h3⟩ := memT_at o T i 46 r h
  refine ⟨?_, h3⟩
  have hm : (MT o T i (data ++ [v]) d out).mem (MT o T i (data ++ [v]) d out).pc = 46 := h1
  rw [run_step (MT o T i (data ++ [v]) d out) { MT o T i (data ++ [v]) d out with pc := (MT o T i (data ++ [v]) d out).pc + 1, data := data, out := out ++ [UInt8.ofNat v] } k n (by show o + i < _; omega) (by rw [hm]; decide) (by
    rw [hm]
    unfold stepS
    rw [if_neg (by decide), if_neg (by decide), if_neg (by decide), if_neg (by decide), if_neg (by decide), if_neg (by decide), if_neg (by decide), if_neg (by decide), if_neg (by decide), if_pos rfl]
    have hp : popS { MT o T i (data ++ [v]) d out with pc := (MT o T i (data ++ [v]) d out).pc + 1 } = some (v, { MT o T i data d out with pc := (MT o T i data d out).pc + 1 }) := by
      unfold popS MT
      dsimp only
      rw [List.getLast?_concat, List.dropLast_concat]
    rw [hp]
    rfl), hm]
  rfl
theorem run_jmp (i k n a : Nat) (d : Bool) (out r : Bytes) (h : T.drop i = 63 :: r) : runS (k + 1) n (MT o T i [0, o + a] d out) = runS k (n + 1) (MT o T a [] false out) := by
  obtain ⟨h1, h2, h3⟩ := memT_at o T i 63 r h
  have hm : (MT o T i [0, o + a] d out).mem (MT o T i [0, o + a] d out).pc = 63 := h1
  rw [run_step (MT o T i [0, o + a] d out) { MT o T a [] d out with pc := o + a } k n (by show o + i < _; omega) (by rw [hm]; decide) (by
    rw [hm]
    rfl), hm]
  rfl
theorem run_stop (i k n : Nat) (data : List Nat) (d : Bool) (out r : Bytes) (h : T.drop i = 36 :: r) : runS (k + 1) n (MT o T i data d out) = (out, 0, n + 1) := by
  obtain ⟨h1, h2, h3⟩ := memT_at o T i 36 r h
  have hm : (MT o T i data d out).mem (MT o T i data d out).pc = 36 := h1
  rw [runS, if_neg (by show ¬ 262144 ≤ o + i; omega), if_pos hm]
  rfl
theorem run_ds : ∀ (ds r : Bytes) (i k n v : Nat) (data : List Nat) (out : Bytes), (∀ c ∈ ds, dgB c = true) → ds.foldl (fun n c => 10 * n + (c.toNat - 48)) v < 4294967296 → T.drop i = ds ++ r →
    runS (k + ds.length) n (MT o T i (data ++ [v]) true out) = runS k (n + ds.length) (MT o T (i + ds.length) (data ++ [ds.foldl (fun n c => 10 * n + (c.toNat - 48)) v]) true out) ∧ T.drop (i + ds.length) = r
  | [], r, i, k, n, v, data, out, _, _, h => ⟨rfl, h⟩
  | c :: ds, r, i, k, n, v, data, out, hd, hv, h => by
    rw [List.foldl_cons] at hv
    have hv2 := Nat.lt_of_le_of_lt (fold_ge ds _) hv
    obtain ⟨e1, e2⟩ := run_d1 hT i (k + ds.length) n v data out (ds ++ r) c (hd c List.mem_cons_self) hv2 h
    obtain ⟨e3, e4⟩ := run_ds ds r (i + 1) k (n + 1) _ data out (fun x hx => hd x (List.mem_cons_of_mem _ hx)) hv e2
    rw [List.length_cons, List.foldl_cons, ← Nat.add_assoc, e1, e3, show n + 1 + ds.length = n + (ds.length + 1) by omega, show i + 1 + ds.length = i + (ds.length + 1) by omega]
    refine ⟨rfl, ?_⟩
    rw [← e4]
    congr 1
    omega
theorem run_num (ds r : Bytes) (i k n : Nat) (data : List Nat) (out : Bytes) (hne : ds ≠ []) (hd : ∀ c ∈ ds, dgB c = true) (hv : valD ds < 4294967296) (hl : data.length < 256) (h : T.drop i = ds ++ r) :
    runS (k + ds.length) n (MT o T i data false out) = runS k (n + ds.length) (MT o T (i + ds.length) (data ++ [valD ds]) true out) ∧ T.drop (i + ds.length) = r := by
  cases ds with
  | nil => exact absurd rfl hne
  | cons c ds =>
    have hvd : valD (c :: ds) = ds.foldl (fun n c => 10 * n + (c.toNat - 48)) (c.toNat - 48) := by
      unfold valD
      rw [List.foldl_cons, Nat.mul_zero, Nat.zero_add]
    rw [hvd] at hv ⊢
    obtain ⟨e1, e2⟩ := run_d0 hT i (k + ds.length) n data out (ds ++ r) c (hd c List.mem_cons_self) hl h
    obtain ⟨e3, e4⟩ := run_ds hT ds r (i + 1) k (n + 1) _ data out (fun x hx => hd x (List.mem_cons_of_mem _ hx)) hv e2
    rw [List.length_cons, ← Nat.add_assoc, e1, e3, show n + 1 + ds.length = n + (ds.length + 1) by omega, show i + 1 + ds.length = i + (ds.length + 1) by omega]
    refine ⟨rfl, ?_⟩
    rw [← e4]
    congr 1
    omega
theorem run_z : ∀ (l : Bytes) (d : Bool) (i K n : Nat) (out : Bytes), 5 * l.length + 1 ≤ K → T.drop i = zJ d l →
    (runS K n (MT o T i [] false out)).1 = out ++ l ∧ (runS K n (MT o T i [] false out)).2.1 = 0
  | [], d, i, K, n, out, hK, h => by
    obtain ⟨k, rfl⟩ : ∃ k, K = k + 1 := ⟨K - 1, by omega⟩
    have h' : T.drop i = 36 :: [] := by cases d <;> exact h
    rw [run_stop hT i k n [] false out [] h', List.append_nil]
    exact ⟨rfl, rfl⟩
  | b :: r, d, i, K, n, out, hK, h => by
    rw [List.length_cons] at hK
    have hb3 : (decDigits b.toNat).length ≤ 3 := dec_len (k := 2) (Nat.lt_trans (UInt8.toNat_lt b) (by decide))
    have main : ∀ (i K n : Nat), 5 * r.length + 5 ≤ K → T.drop i = decDigits b.toNat ++ (46 :: zJ false r) → (runS K n (MT o T i [] false out)).1 = out ++ b :: r ∧ (runS K n (MT o T i [] false out)).2.1 = 0 := by
      intro i K n hK h
      obtain ⟨k, rfl⟩ : ∃ k, K = (k + 1) + (decDigits b.toNat).length := ⟨K - (decDigits b.toNat).length - 1, by omega⟩
      obtain ⟨e1, e2⟩ := run_num hT (decDigits b.toNat) (46 :: zJ false r) i (k + 1) n [] out (dec_ne _) (dec_dig _) (by rw [val_dec]; exact Nat.lt_trans (UInt8.toNat_lt b) (by decide)) (by decide) h
      rw [e1, val_dec]
      obtain ⟨e3, e4⟩ := run_dot hT (i + (decDigits b.toNat).length) k (n + (decDigits b.toNat).length) b.toNat [] true out (zJ false r) e2
      rw [e3]
      have hib : UInt8.ofNat b.toNat = b := by simp
      rw [hib]
      have := run_z r false _ k (n + (decDigits b.toNat).length + 1) (out ++ [b]) (by omega) e4
      rw [List.append_assoc] at this
      exact this
    rw [zJ] at h
    cases d with
    | true =>
      obtain ⟨k, rfl⟩ : ∃ k, K = k + 1 := ⟨K - 1, by omega⟩
      obtain ⟨e1, e2⟩ := run_sp hT i k n [] false out (decDigits b.toNat ++ (46 :: zJ false r)) h
      rw [e1]
      exact main (i + 1) k (n + 1) (by omega) e2
    | false => exact main i K n (by omega) h
end
theorem val_digs (k : Nat) : ∀ u : Nat, u < 10 ^ k → valD (digs k u) = u := by
  induction k with
  | zero => intro u h; simp at h; subst h; rfl
  | succ k ih =>
    intro u h
    rw [digs, valD_snoc, ih (u / 10) (by rw [Nat.pow_succ] at h; omega), (dgB_of (u % 10) (by omega)).2]
    omega
/-- the run from the start, and from the label -/
theorem jump_runs (o : Nat) (l X : Bytes) (d : Bool) (h1 : o ≤ 260144) (hX : X.length ≤ 102) (hc : ∃ r, X = 63 :: r) (hl : l.length ≤ 60) :
    ∀ T, T = [48, 32] ++ sixA ((o : Int) + ((8 + X.length : Nat) : Int)) ++ (X ++ zJ d l) →
    ((runO o T o [] 5000).1 = l ∧ (runO o T o [] 5000).2.1 = 0) ∧ ((runO o T (o + (8 + X.length)) [] 5000).1 = l ∧ (runO o T (o + (8 + X.length)) [] 5000).2.1 = 0) ∧ o + T.length ≤ 262144 := by
  intro T hTd
  obtain ⟨r, rfl⟩ := hc
  have hsix : sixA ((o : Int) + ((8 + (63 :: r).length : Nat) : Int)) = digs 6 (o + (8 + (63 :: r).length)) := by
    unfold sixA
    congr 1
  rw [hsix] at hTd
  have hz := z_len l d
  have hT : o + T.length ≤ 262144 := by
    rw [hTd]
    simp only [List.length_append, digs_length, List.length_cons, List.length_nil] at hX ⊢
    omega
  obtain ⟨a, ha⟩ : ∃ a, a = 8 + (63 :: r).length := ⟨_, rfl⟩
  rw [← ha] at hTd ⊢
  have hal : a ≤ 110 := by omega
  have hdz : T.drop a = zJ d l := by
    rw [hTd, ← List.append_assoc]
    have : ([48, 32] ++ digs 6 (o + a) ++ (63 :: r)).length = a := by
      rw [List.length_append, List.length_append, digs_length, ha]
      rfl
    exact List.drop_left' this
  have hlab := run_z hT l d a 5000 0 [] (by omega) hdz
  have d0 : T.drop 0 = [48] ++ (32 :: (digs 6 (o + a) ++ (63 :: (r ++ zJ d l)))) := by
    rw [hTd, List.drop_zero]
    simp
  obtain ⟨s1, e1⟩ := run_num hT [48] _ 0 4999 0 [] [] (by decide) (by decide) (by decide) (by decide) d0
  obtain ⟨s2, e2⟩ := run_sp hT _ 4998 _ ([] ++ [valD [48]]) true [] _ e1
  obtain ⟨s3, e3⟩ := run_num hT (digs 6 (o + a)) _ _ 4992 _ ([] ++ [valD [48]]) [] (fun e => by have := congrArg List.length e; rw [digs_length] at this; cases this) (fun c hc => digs_dig 6 _ c hc) (by rw [val_digs 6 _ (by omega)]; omega) (by decide) e2
  rw [digs_length, val_digs 6 _ (by omega)] at s3
  rw [digs_length] at e3
  have s4 := run_jmp hT _ 4991 (0 + [48].length + 1 + 6) a true [] _ e3
  have hrun := run_z hT l d a 4991 (0 + [48].length + 1 + 6 + 1) [] (by omega) hdz
  have hall : runS 5000 0 (MT o T 0 [] false []) = runS 4991 (0 + [48].length + 1 + 6 + 1) (MT o T a [] false []) := by
    rw [← s4]
    exact s1.trans (s2.trans s3)
  unfold runO
  rw [if_neg (by decide), if_neg (by decide), if_neg (by decide), if_neg (by decide)]
  refine ⟨?_, ?_, hT⟩
  · rw [← hall] at hrun
    exact hrun
  · exact hlab
end Go.Proofs.YtimegcnpembhkaaDoor
