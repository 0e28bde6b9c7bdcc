/- The plain law of joined paths; the contracts of pathname.Parent and Join. -/
import Derived.Test.YtkbaappeakgnoaaDoorPathWalk
import Derived.Test.YtkbaappeakgnoaaDoorRetWalk
import Derived.Lib.Join
namespace Go.Proofs.YtkbaappeakgnoaaDoor
open Go.RowKit Go.Lib
set_option linter.unusedVariables false

theorem jn_cons (a b : List UInt8) (r : List (List UInt8)) : Lib.join (a :: b :: r) [47] = a ++ 47 :: Lib.join (b :: r) [47] := by
  unfold Lib.join
  simp [List.intercalate, List.intersperse]
theorem jn_one (a : List UInt8) : Lib.join [a] [47] = a := by
  unfold Lib.join
  simp [List.intercalate]
theorem jn_nil : Lib.join [] [47] = [] := by
  unfold Lib.join
  simp [List.intercalate]
theorem cutAt_two (c : UInt8) : ∀ (a b p : List UInt8), cutAt c p (a ++ c :: b) = cutAt c p a ++ cutAt c [] b := by
  intro a
  induction a with
  | nil => intro b p; simp [cutAt]
  | cons x a ih =>
    intro b p
    rw [List.cons_append]
    by_cases h : x = c
    · simp [cutAt, h, ih]
    · simp [cutAt, h, ih]
theorem cutAt_none (c : UInt8) : ∀ (a p : List UInt8), c ∉ a → cutAt c p a = [p ++ a] := by
  intro a
  induction a with
  | nil => intro p _; simp [cutAt]
  | cons x a ih =>
    intro p h
    simp only [List.mem_cons, not_or] at h
    have hx : ¬ x = c := fun e => h.1 e.symm
    rw [cutAt, if_neg hx, ih _ h.2]
    simp
theorem cutAt_ne2 (c : UInt8) : ∀ (m p : List UInt8), cutAt c p m ≠ [] := by
  intro m
  induction m with
  | nil => intro p; simp [cutAt]
  | cons b m ihm => intro p; unfold cutAt; split <;> simp [ihm]
theorem cut_jn : ∀ xs : List (List UInt8), xs ≠ [] → (∀ x ∈ xs, (47 : UInt8) ∉ x) → cutAt 47 [] (Lib.join xs [47]) = xs := by
  intro xs
  induction xs with
  | nil => intro h _; exact absurd rfl h
  | cons a r ih =>
    intro _ h
    cases r with
    | nil => rw [jn_one, cutAt_none _ _ _ (h a (by simp))]; rfl
    | cons b r =>
      rw [jn_cons, cutAt_two, cutAt_none _ _ _ (h a (by simp)), ih (by simp) (fun x hx => h x (by simp at hx ⊢; exact Or.inr hx))]
      rfl
theorem jn_cut : ∀ (l p : List UInt8), Lib.join (cutAt 47 p l) [47] = p ++ l := by
  intro l
  induction l with
  | nil => intro p; rw [cutAt, jn_one, List.append_nil]
  | cons b l ih =>
    intro p
    rw [cutAt]
    by_cases h : b = 47
    · rw [if_pos h]
      cases hc : cutAt 47 [] l with
      | nil => exact absurd hc (cutAt_ne2 _ _ _)
      | cons x r =>
        rw [jn_cons, ← hc, ih []]
        rw [h]; rfl
    · rw [if_neg h, ih]
      simp
theorem jn_snoc_le : ∀ (ys : List (List UInt8)) (x : List UInt8), (Lib.join ys [47]).length ≤ (Lib.join (ys ++ [x]) [47]).length := by
  intro ys
  induction ys with
  | nil => intro x; rw [jn_nil]; exact Nat.zero_le _
  | cons y r ih =>
    intro x
    cases r with
    | nil => rw [List.cons_append, List.nil_append, jn_cons, jn_one]; simp
    | cons z r =>
      rw [List.cons_append, List.cons_append, jn_cons, jn_cons]
      have := ih x
      rw [List.cons_append] at this
      simp only [List.length_append, List.length_cons]
      omega

/-- the elements joined -/
def joinB (xs : List ByteArray) : ByteArray := ⟨(Lib.join (xs.map (·.data.toList)) [47]).toArray⟩
theorem joinB_data (xs : List ByteArray) : (joinB xs).data.toList = Lib.join (xs.map (·.data.toList)) [47] := by unfold joinB; simp
theorem joinB_size (xs : List ByteArray) : (joinB xs).size = (Lib.join (xs.map (·.data.toList)) [47]).length := by
  have : (joinB xs).size = (joinB xs).data.toList.length := rfl
  rw [this, joinB_data]

theorem okComp_facts {x : ByteArray} (h : okComp x = true) : 1 ≤ x.size ∧ (47 : UInt8) ∉ x.data.toList := by
  unfold okComp at h
  simp only [Bool.and_eq_true, decide_eq_true_eq] at h
  refine ⟨h.1.1.1.1, fun hm => ?_⟩
  have := List.all_eq_true.1 h.2 47 hm
  revert this
  decide

theorem els_joinB (xs : List ByteArray) (h : xs.all okComp = true) : els (joinB xs) = xs := by
  have hall := List.all_eq_true.1 h
  cases hxs : xs with
  | nil =>
    unfold els
    rw [if_pos]
    rw [joinB_size]
    rw [List.map_nil, jn_nil]
    rfl
  | cons a r =>
    rw [← hxs]
    have hne : xs.map (·.data.toList) ≠ [] := by rw [hxs]; simp
    have hcut : cutAt 47 [] (joinB xs).data.toList = xs.map (·.data.toList) := by
      rw [joinB_data]
      refine cut_jn _ hne ?_
      intro x hx
      obtain ⟨y, hy, rfl⟩ := List.mem_map.1 hx
      exact (okComp_facts (hall y hy)).2
    have hsz : (joinB xs).size ≠ 0 := by
      intro e
      have e2 : (joinB xs).data.toList = [] := List.eq_nil_of_length_eq_zero e
      rw [e2, hxs] at hcut
      simp [cutAt] at hcut
      have := (okComp_facts (hall a (by rw [hxs]; simp))).1
      have h3 : a.size = a.data.toList.length := rfl
      rw [← Array.toList_inj] at hcut
      have h4 := hcut.1
      simp at h4
      rw [h3] at this
      simp [h4] at this
    have := els_data (joinB xs) hsz
    rw [hcut] at this
    exact (List.map_inj_right (fun x y e => bytes_inj e)).1 this

theorem chk_zero {s : ByteArray} (h : chk s = 0) : s.size ≤ 200 ∧ (els s).length ≤ 8 ∧ (els s).all okComp = true := by
  unfold chk at h
  by_cases h1 : 200 < s.size
  · rw [if_pos h1] at h; cases h
  · rw [if_neg h1] at h
    by_cases h2 : 8 < (els s).length
    · rw [if_pos h2] at h; cases h
    · rw [if_neg h2] at h
      by_cases h3 : (els s).all okComp = true
      · exact ⟨by omega, by omega, h3⟩
      · rw [if_neg h3] at h; cases h
theorem chk_of {s : ByteArray} (h1 : s.size ≤ 200) (h2 : (els s).length ≤ 8) (h3 : (els s).all okComp = true) : chk s = 0 := by
  unfold chk
  rw [if_neg (by omega), if_neg (by omega), if_pos h3]

/-- the path above -/
def par (s : ByteArray) : ByteArray := joinB (els s).dropLast
theorem all_dropLast {xs : List ByteArray} (h : xs.all okComp = true) : xs.dropLast.all okComp = true := by
  rw [List.all_eq_true] at h ⊢
  exact fun x hx => h x ((List.dropLast_sublist xs).subset hx)
theorem joinB_els (s : ByteArray) (h : s.size ≠ 0) : joinB (els s) = s := by
  refine bytes_inj ?_
  rw [joinB_data, els_data s h, jn_cut]
  rfl
theorem els_ne (s : ByteArray) (h : s.size ≠ 0) : els s ≠ [] := by
  intro e
  have := els_data s h
  rw [e] at this
  exact cutAt_ne2 _ _ _ this.symm
theorem par_size (s : ByteArray) (h : s.size ≠ 0) : (par s).size ≤ s.size := by
  have h1 := joinB_els s h
  have h2 := jn_snoc_le ((els s).dropLast.map (·.data.toList)) ((els s).getLast (els_ne s h)).data.toList
  unfold par
  rw [joinB_size]
  conv => rhs; rw [← h1, joinB_size]
  conv => rhs; rw [← List.dropLast_concat_getLast (els_ne s h), List.map_append]
  exact h2
theorem par_els {s : ByteArray} (hc : chk s = 0) : els (par s) = (els s).dropLast := els_joinB _ (all_dropLast (chk_zero hc).2.2)
theorem par_chk {s : ByteArray} (hc : chk s = 0) (h : s.size ≠ 0) : chk (par s) = 0 := by
  have h1 := chk_zero hc
  have h2 := par_size s h
  refine chk_of (by omega) ?_ ?_
  · rw [par_els hc, List.length_dropLast]; omega
  · rw [par_els hc]; exact all_dropLast h1.2.2

set_option maxRecDepth 100000 in
theorem parent_any (s : ByteArray) (w : World) (hc : chk s = 0) (h0 : s.size ≠ 0) (hE : Env w) :
    Calls Tryd.prog 17 #[.string s] w fun e w' => e = .returned (.tuple #[.string (par s), .int .i64 0]) ∧ Ext w w' := by
  obtain ⟨f1, f2, f3⟩ := chk_zero hc
  have hsp := psplit_any s w (by omega) hE
  have hne := els_ne s h0
  unfold spl at hsp
  rw [if_pos hc, hc] at hsp
  have hjl : (Lib.join ((els s).dropLast.map (·.data.toList)) [47]).length ≤ 1000 := by
    have := par_size s h0
    unfold par at this
    rw [joinB_size] at this
    omega
  obtain ⟨R, hR⟩ : ∃ R, R = par s := ⟨_, rfl⟩
  rw [← hR]
  unfold par at hR
  generalize els s = l at *
  have H := Lib.hid hsp
  have hln : l.length ≠ 0 := fun e => hne (List.eq_nil_of_length_eq_zero e)
  clear hsp hc h0 hne f3
  go_enter Tryd.func17, Tryd.ntmps17
  go_wp2_with fail
  refine H.out.mono ?_
  rintro e w1 ⟨A, cap, rfl, hl, hx1⟩
  have hroom := hl.room
  have hmax := hl.max
  unfold maxLen at hmax
  obtain ⟨b, off, rfl, hcl⟩ := hl.at_ (by omega)
  by_cases h1 : l.length = 1
  · have hd : l.dropLast = [] := List.eq_nil_of_length_eq_zero (by rw [List.length_dropLast]; omega)
    have hq : Hid (⟨#[]⟩ = R) := by show _ = _; rw [hR, hd]; rfl
    have hJ := fun W => Tryd.strings_Join_none (some ⟨b, off, none⟩) cap ⟨#[47]⟩ W
    have HJ := Lib.hid hJ
    clear hJ hR hl hjl hd hcl
    generalize hlen : l.length = n at *
    subst h1
    go_wp2_with fail
    refine (HJ.out _).mono ?_
    rintro e w2 ⟨rfl, rfl⟩
    go_wp2_with fail
    go_ret2
    exact ⟨by rw [hq.out]; rfl, hx1⟩
  · have hJ := Tryd.strings_Join b off cap l.dropLast ⟨#[47]⟩ w1 (by
      intro j x hj
      have hj2 : j < l.dropLast.length := by
        rw [List.getElem?_eq_some_iff] at hj; exact hj.1
      have hj3 : j < l.length := by rw [List.length_dropLast] at hj2; omega
      have := hcl j (by rw [List.length_map]; exact hj3)
      rw [List.getElem_map] at this
      rw [List.getElem?_eq_getElem hj2, List.getElem_dropLast] at hj
      injection hj with hj
      rw [← hj]; exact this) (by
        have := hcl 0 (by rw [List.length_map]; omega)
        exact cell_lt this) (by rw [List.length_dropLast]; omega) (by rw [List.length_dropLast]; omega) (by
          show (Lib.join (l.dropLast.map (·.data.toList)) [47]).length ≤ _
          omega)
    have hq : Hid (R = ⟨(Lib.join (l.dropLast.map (·.data.toList)) (⟨#[47]⟩ : ByteArray).data.toList).toArray⟩) := hR
    generalize (⟨(Lib.join (l.dropLast.map (·.data.toList)) (⟨#[47]⟩ : ByteArray).data.toList).toArray⟩ : ByteArray) = R2 at *
    rw [List.length_dropLast] at hJ
    have HJ := Lib.hid hJ
    clear hJ hR hl hjl hcl
    have hnn : ((l.length - 1 : Nat) : Int) = (l.length : Int) - 1 := by omega
    generalize l.length = n at *
    go_wp2_with fail
    refine HJ.out.mono ?_
    rintro e w2 ⟨rfl, hx2⟩
    go_wp2_with fail
    go_ret2
    exact ⟨by rw [hq.out]; rfl, hx1.trans hx2⟩
end Go.Proofs.YtkbaappeakgnoaaDoor
