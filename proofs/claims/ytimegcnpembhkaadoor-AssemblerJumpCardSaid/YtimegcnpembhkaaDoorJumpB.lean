/- The law AssemblerJump: what its source is assembled to. -/
import Derived.Test.YtimegcnpembhkaaDoorJumpA
namespace Go.Proofs.YtimegcnpembhkaaDoor
open Go.Lib Dec
set_option linter.unusedVariables false

def startW : Bytes := [115, 116, 97, 114, 116]
/-- the source behind the label -/
def tailJ : Bytes → Bytes
  | [] => [36]
  | b :: r => decDigits b.toNat ++ 32 :: ([46] ++ 32 :: tailJ r)
def srcJ (l sk : Bytes) : Bytes := [48] ++ 32 :: ((38 :: startW) ++ 32 :: ([63] ++ 32 :: (sk ++ 32 :: ((startW ++ [58]) ++ 32 :: tailJ l))))
/-- its words -/
def wordsJ : Bytes → List Bytes
  | [] => [[36]]
  | b :: r => decDigits b.toNat :: [46] :: wordsJ r
theorem digs_isDig (n : Nat) : ∀ c ∈ decDigits n, isDig c = true := dec_dig n
theorem isDig_cd (c : UInt8) (h : isDig c = true) : isCd c = true := by unfold isCd; rw [h, Bool.or_true]
theorem isDig_free {c : UInt8} (h : isDig c = true) : c ≠ 10 ∧ c ≠ 35 ∧ c ≠ 32 := cd_free (isDig_cd c h)
theorem wtx_tail : ∀ l : Bytes, wtx (tailJ l) = wordsJ l
  | [] => wtx_word [36] (by decide) (by decide)
  | b :: r => by
    rw [tailJ, wtx_cons _ _ (dec_ne _) (fun c hc => isDig_free (digs_isDig _ c hc)), wtx_cons [46] _ (by decide) (by decide), wtx_tail r]
    rfl
theorem words_code : ∀ (l : Bytes), ∀ k ∈ wordsJ l, CodeW k
  | [], k, hk => by rw [List.mem_singleton.1 hk]; exact ⟨by decide, by decide⟩
  | b :: r, k, hk => by
    rcases List.mem_cons.1 hk with rfl | hk
    · exact ⟨dec_ne _, fun c hc => isDig_cd c (digs_isDig _ c hc)⟩
    rcases List.mem_cons.1 hk with rfl | hk
    · exact ⟨by decide, by decide⟩
    · exact words_code r k hk
theorem wtx_src (l sk : Bytes) (hs : ∀ c ∈ sk, c = 10 ∨ c = 32 ∨ isCd c = true) : wtx (srcJ l sk) = [48] :: (38 :: startW) :: [63] :: (wtx sk ++ (startW ++ [58]) :: wordsJ l) := by
  have h35 : (35 : UInt8) ∉ sk := fun e => by
    rcases hs 35 e with h | h | h
    · cases h
    · cases h
    · exact absurd h (by decide)
  unfold srcJ
  rw [wtx_cons [48] _ (by decide) (by decide), wtx_cons (38 :: startW) _ (by decide) (by decide), wtx_cons [63] _ (by decide) (by decide), wtx_space sk _ h35, wtx_cons (startW ++ [58]) _ (by decide) (by decide), wtx_tail]
/-- the text behind the label -/
def zJ : Bool → Bytes → Bytes
  | _, [] => [36]
  | d, b :: r => (if d = true then [32] else []) ++ (decDigits b.toNat ++ (46 :: zJ false r))
theorem lastB_snoc2 (a : Bytes) (c : UInt8) : lastB (a ++ [c]) = c := by rw [lastB_app2 _ _ (by simp)]; rfl
theorem fold_z : ∀ (l X : Bytes), X ≠ [] → (wordsJ l).foldl glue X = X ++ zJ (isDig (lastB X)) l
  | [], X, h => by
    rw [wordsJ, List.foldl_cons, List.foldl_nil]
    unfold glue zJ
    rw [if_neg (by simp [headB]; intro _; decide)]
  | b :: r, X, h => by
    have hh : isDig (headB (decDigits b.toNat)) = true := by
      cases hd : decDigits b.toNat with
      | nil => exact absurd hd (dec_ne _)
      | cons c q => exact digs_isDig b.toNat c (by rw [hd]; exact List.mem_cons_self)
    have h1 : glue X (decDigits b.toNat) = X ++ ((if isDig (lastB X) = true then [32] else []) ++ decDigits b.toNat) := by
      unfold glue
      rw [hh, Bool.and_true]
      split <;> simp
    have h2 : ∀ Y : Bytes, glue Y [46] = Y ++ [46] := fun Y => by
      unfold glue
      rw [if_neg]
      rw [show isDig (headB [46]) = false by decide, Bool.and_false]
      decide
    rw [wordsJ, List.foldl_cons, List.foldl_cons, h1, h2, fold_z r _ (by simp), lastB_snoc2]
    rw [show isDig 46 = false by decide, zJ]
    simp [List.append_assoc]
theorem build_jump (f : Bytes → Int) (o : Int) (l sk : Bytes) (hs : ∀ c ∈ sk, c = 10 ∨ c = 32 ∨ isCd c = true) :
    buildA f o [] [] (toks (srcJ l sk)) = ([48, 32] ++ sixA (f startW) ++ ((wtx sk).foldl glue [63] ++ zJ (isDig (lastB ((wtx sk).foldl glue [63]))) l), [(startW, o + (([48, 32] ++ sixA (f startW) ++ (wtx sk).foldl glue [63]).length : Nat))]) := by
  have hw := wtx_src l sk hs
  obtain ⟨K, hK⟩ : ∃ K, K = wtx sk := ⟨_, rfl⟩
  have hKc : ∀ k ∈ K, CodeW k := by rw [hK]; exact wtx_code sk hs
  rw [← hK] at hw ⊢
  have hkn : ∀ (ks : List Bytes) (b : Bytes), b ≠ [] → ks.foldl glue b ≠ [] := by
    intro ks
    induction ks with
    | nil => intro b h; exact h
    | cons k ks ih => intro b h; exact ih _ (glue_ne b k h)
  have hX : K.foldl glue [63] ≠ [] := hkn K [63] (by decide)
  have hm : ∀ ks : List Bytes, ((ks.map (·, 1) : List Tok).map (·.1)) = ks := fun ks => by
    induction ks with
    | nil => rfl
    | cons k ks ih => rw [List.map_cons, List.map_cons, ih]
  have hL : (toks (srcJ l sk)).map (·.1) = ([([48], 1)] ++ ((38 :: startW, 1) :: ((([63] :: K).map (·, 1)) ++ ((startW ++ [58], 1) :: ((wordsJ l).map (·, 1) ++ [])))) : List Tok).map (·.1) := by
    show wtx (srcJ l sk) = _
    rw [hw]
    simp only [List.map_append, List.map_cons, hm, List.append_nil, List.cons_append, List.nil_append]
  rw [build_texts f o _ _ [] [] hL]
  have c0 : ∀ t ∈ ([([48], 1)] : List Tok), CodeW t.1 := fun t ht => by rw [List.mem_singleton.1 ht]; exact ⟨by decide, by decide⟩
  rw [build_code f o [] _ _ [] c0]
  have d1 : defN (38 :: startW) = none := by decide
  have r1 : refN (38 :: startW) = some startW := by decide
  have d2 : defN (startW ++ [58]) = some startW := by decide
  have g0 : ([([48], 1)].map (·.1) : List Bytes).foldl glue [] = [48] := by decide
  have hsix : sixA (f startW) ≠ [] := fun e => by
    have := congrArg List.length e
    unfold sixA at this
    rw [digs_length] at this
    cases this
  have hsd : ∀ c ∈ sixA (f startW), isDig c = true := digs_dig 6 _
  have g1 : glue [48] (sixA (f startW)) = [48, 32] ++ sixA (f startW) := by
    unfold glue
    rw [if_pos]
    · rfl
    · cases hq : sixA (f startW) with
      | nil => exact absurd hq hsix
      | cons c r =>
        rw [show lastB [48] = 48 from rfl, show headB (c :: r) = c from rfl, hsd c (by rw [hq]; exact List.mem_cons_self)]
        decide
  rw [g0, buildA, d1]
  dsimp only
  have hadd : addS f (38 :: startW, 1) = sixA (f startW) := by unfold addS; rw [r1]
  rw [hadd, g1]
  have c1 : ∀ t ∈ (([63] :: K).map (·, 1) : List Tok), CodeW t.1 := fun t ht => by
    obtain ⟨k, hk, rfl⟩ := List.mem_map.1 ht
    rcases List.mem_cons.1 hk with rfl | hk
    · exact ⟨by decide, by decide⟩
    · exact hKc k hk
  rw [build_code f o [] _ _ _ c1]
  rw [hm, List.foldl_cons]
  have g2 : glue ([48, 32] ++ sixA (f startW)) [63] = ([48, 32] ++ sixA (f startW)) ++ [63] := by
    unfold glue
    rw [if_neg]
    rw [show isDig (headB [63]) = false by decide, Bool.and_false]
    decide
  rw [g2, fold_front _ K [63] (by decide), buildA, d2]
  dsimp only
  have c2 : ∀ t ∈ ((wordsJ l).map (·, 1) : List Tok), CodeW t.1 := fun t ht => by
    obtain ⟨k, hk, rfl⟩ := List.mem_map.1 ht
    exact words_code l k hk
  rw [build_code f o _ [] _ _ c2, hm, fold_front _ _ _ hX, fold_z l _ hX, buildA]
  rfl
end Go.Proofs.YtimegcnpembhkaaDoor
