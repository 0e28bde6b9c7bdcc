/- The law AssemblerJump: Assemble at its source. -/
import Derived.Test.YtimegcnpembhkaaDoorJumpB
namespace Go.Proofs.YtimegcnpembhkaaDoor
open Go.Lib Dec
set_option linter.unusedVariables false

theorem scan_sumJ : ∀ (r : Bytes) (n : Nat) (cur : Bytes) (com : Bool), ((scan r n cur com).map (·.1.length + 1)).sum ≤ cur.length + r.length + 1 := by
  intro r
  induction r with
  | nil => intro n cur com; unfold scan; by_cases h : cur = [] <;> simp [h]
  | cons c r ih =>
    intro n cur com
    by_cases h10 : c = 10
    · subst h10
      rw [scan_nl]
      have := ih (n + 1) [] false
      by_cases h : cur = [] <;> simp [h] at this ⊢ <;> omega
    · cases com with
      | true => rw [scan_com _ _ _ _ h10]; have := ih n [] true; simp at this ⊢; omega
      | false =>
        by_cases h35 : c = 35
        · subst h35
          rw [scan_hash]
          have := ih n [] true
          by_cases h : cur = [] <;> simp [h] at this ⊢ <;> omega
        · by_cases h32 : c = 32
          · subst h32
            rw [scan_sp]
            have := ih n [] false
            by_cases h : cur = [] <;> simp [h] at this ⊢ <;> omega
          · rw [scan_other _ _ _ _ h10 h35 h32]
            have := ih n (cur ++ [c]) false
            simp at this ⊢; omega
theorem fold_len : ∀ (ks : List Bytes) (b : Bytes), (ks.foldl glue b).length ≤ b.length + (ks.map (·.length + 1)).sum
  | [], b => by simp
  | k :: ks, b => by
    rw [List.foldl_cons, List.map_cons, List.sum_cons]
    have h1 := fold_len ks (glue b k)
    have h2 : (glue b k).length ≤ b.length + 1 + k.length := by
      unfold glue
      rw [List.length_append]
      split
      · rw [List.length_append, List.length_singleton]; omega
      · omega
    omega
theorem wtx_sum (s : Bytes) : ((wtx s).map (·.length + 1)).sum ≤ s.length + 1 := by
  have h := scan_sumJ s 1 [] false
  rw [scan_toks] at h
  unfold wtx
  rw [List.length_nil, Nat.zero_add] at h
  rw [List.map_map]
  exact h
theorem z_len : ∀ (l : Bytes) (d : Bool), (zJ d l).length ≤ 5 * l.length + 1
  | [], d => by cases d <;> simp [zJ]
  | b :: r, d => by
    have h1 := z_len r false
    have h2 : (decDigits b.toNat).length ≤ 3 := dec_len (k := 2) (Nat.lt_trans (UInt8.toNat_lt b) (by decide))
    rw [zJ, List.length_append, List.length_append, List.length_cons, List.length_cons]
    have h3 : (if d = true then [(32 : UInt8)] else []).length ≤ 1 := by split <;> simp
    omega
theorem chk_jump (l sk : Bytes) (hs : ∀ c ∈ sk, c = 10 ∨ c = 32 ∨ isCd c = true) : (chkA (toks (srcJ l sk))).2 = 0 := by
  have hw := wtx_src l sk hs
  obtain ⟨K, hK⟩ : ∃ K, K = wtx sk := ⟨_, rfl⟩
  have hKc : ∀ k ∈ K, CodeW k := by rw [hK]; exact wtx_code sk hs
  rw [← hK] at hw
  have hm : ∀ ks : List Bytes, ((ks.map (·, 1) : List Tok).map (·.1)) = ks := fun ks => by
    induction ks with
    | nil => rfl
    | cons k ks ih => rw [List.map_cons, List.map_cons, ih]
  obtain ⟨L, hLd⟩ : ∃ L : List Tok, L = [([48], 1)] ++ ((38 :: startW, 1) :: ((([63] :: K).map (·, 1)) ++ ((startW ++ [58], 1) :: ((wordsJ l).map (·, 1) ++ [])))) := ⟨_, rfl⟩
  have hL : (toks (srcJ l sk)).map (·.1) = L.map (·.1) := by
    show wtx (srcJ l sk) = _
    rw [hw, hLd]
    simp only [List.map_append, List.map_cons, hm, List.append_nil, List.cons_append, List.nil_append]
  have hD : defd (toks (srcJ l sk)) = defd L := defd_texts hL
  have d1 : defN (38 :: startW) = none := by decide
  have r1 : refN (38 :: startW) = some startW := by decide
  have d2 : defN (startW ++ [58]) = some startW := by decide
  have hds : defd L startW = true := by
    unfold defd
    rw [List.any_eq_true]
    exact ⟨(startW ++ [58], 1), by rw [hLd]; simp, by simp [d2]⟩
  have c0 : ∀ t ∈ ([([48], 1)] : List Tok), CodeW t.1 := fun t ht => by rw [List.mem_singleton.1 ht]; exact ⟨by decide, by decide⟩
  have c1 : ∀ t ∈ (([63] :: K).map (·, 1) : List Tok), CodeW t.1 := fun t ht => by
    obtain ⟨k, hk, rfl⟩ := List.mem_map.1 ht
    rcases List.mem_cons.1 hk with rfl | hk
    · exact ⟨by decide, by decide⟩
    · exact hKc k hk
  have c2 : ∀ t ∈ ((wordsJ l).map (·, 1) : List Tok), CodeW t.1 := fun t ht => by
    obtain ⟨k, hk, rfl⟩ := List.mem_map.1 ht
    exact words_code l k hk
  have hgo : chkGo (defd L) (fun _ => false) L = (0, 0) := by
    generalize defd L = D at *
    rw [hLd, chk_code D _ _ _ c0, chkGo, d1]
    dsimp only
    rw [r1]
    dsimp only
    rw [if_pos hds, chk_code D _ _ _ c1, chkGo, d2]
    dsimp only
    rw [if_neg (by decide), chk_code D _ _ _ c2]
    rfl
  unfold chkA
  rw [hD]
  rcases chk_texts (defd L) _ _ (fun _ => false) hL with ⟨h1, -⟩ | ⟨t, -, u, -, e, he, -, h2⟩
  · rw [h1]
  · rw [hgo] at h2
    exact absurd (congrArg Prod.snd h2).symm he
/-- what the source is assembled to -/
theorem asm_jump (l sk : Bytes) (o : Int) (h0 : 0 ≤ o) (h1 : o ≤ 260144) (hl : l.length ≤ 60) (hsk : sk.length ≤ 100) (hs : ∀ c ∈ sk, c = 10 ∨ c = 32 ∨ isCd c = true) :
    ∃ (X : Bytes) (d : Bool), X.length ≤ 102 ∧ (∃ r, X = 63 :: r) ∧
      asmA (srcJ l sk) o = ([48, 32] ++ sixA (o + ((8 + X.length : Nat) : Int)) ++ (X ++ zJ d l), [(startW, o + ((8 + X.length : Nat) : Int))], 0, 0) := by
  have hb := fun f => build_jump f o l sk hs
  obtain ⟨X, hX⟩ : ∃ X, X = (wtx sk).foldl glue [63] := ⟨_, rfl⟩
  have hXl : X.length ≤ 102 := by
    have h2 := fold_len (wtx sk) [63]
    have h3 := wtx_sum sk
    rw [← hX] at h2
    rw [List.length_singleton] at h2
    omega
  have hXc : ∃ r, X = 63 :: r := by
    rw [hX]
    have : ∀ (ks : List Bytes) (q : Bytes), ∃ r, ks.foldl glue (63 :: q) = 63 :: r := by
      intro ks
      induction ks with
      | nil => intro q; exact ⟨q, rfl⟩
      | cons k ks ih =>
        intro q
        rw [List.foldl_cons]
        have : ∃ q', glue (63 :: q) k = 63 :: q' := by
          unfold glue
          split
          · exact ⟨_, rfl⟩
          · exact ⟨_, rfl⟩
        obtain ⟨q', e⟩ := this
        rw [e]
        exact ih q'
    exact this (wtx sk) []
  rw [← hX] at hb
  have hln : ∀ n : Int, ([48, 32] ++ sixA n ++ X).length = 8 + X.length := fun n => by
    rw [List.length_append, List.length_append]
    unfold sixA
    rw [digs_length]
    rfl
  refine ⟨X, isDig (lastB X), hXl, hXc, ?_⟩
  have hz := z_len l (isDig (lastB X))
  have hlk : lookI [(startW, o + ((8 + X.length : Nat) : Int))] startW = o + ((8 + X.length : Nat) : Int) := by
    unfold lookI
    simp [setI]
  unfold asmA
  rw [if_neg (by omega), if_neg (by rw [chk_jump l sk hs]; decide)]
  rw [hb (fun _ => 0)]
  dsimp only
  rw [hln, hb, hln, hlk]
  dsimp only
  rw [if_neg]
  have h9 : ([48, 32] ++ sixA (o + ((8 + X.length : Nat) : Int)) ++ (X ++ zJ (isDig (lastB X)) l)).length = 8 + X.length + (zJ (isDig (lastB X)) l).length := by
    rw [← List.append_assoc, List.length_append, hln]
  rw [h9]
  omega
end Go.Proofs.YtimegcnpembhkaaDoor
