/- A drawn region under an invariant: what is known of the values (kn: operation, slot, value) and a property J of what has come up, of the slots and of the world; each operation is shown once, whatever the order. -/
import Derived.Test.YtjmglbppmolipaaGreatDoorGrow
namespace Go.Proofs.YtjmglbppmolipaaGreatDoor
open Go.RowKit

def notDst (l : List Oper) (t : Nat) : Bool := l.all fun o => o.dst != some t
def knownB (l : List Oper) (kn : List (Nat × Nat × Value)) : Bool := kn.all fun p => match l[p.1]? with | some o => o.dst == some p.2.1 | none => false
def coverB (l : List Oper) (kn : List (Nat × Nat × Value)) (sp : List Nat) : Bool := l.all fun o => match o.dst with | none => true | some d => (kn.any fun p => p.2.1 == d) || sp.contains d
def spB (l : List Oper) (sp : List Nat) : Bool := sp.all fun d => l.any fun o => o.dst == some d

def StepJ (P : Program) (l : List Oper) (Q : Exit → Act → World → Prop) (a0 : Act) (kn : List (Nat × Nat × Value)) (J : (Nat → Bool) → (Nat → Value) → World → Prop) (i : Nat) (o : Oper) : Prop :=
  ∀ (L : Nat → Bool) (a : Act) (w : World) (K : Act → World → Prop), a.tmps.size = a0.tmps.size → L i = false → (∀ e ∈ o.after, Region.binds .any e = true → L e.on = true) →
    (∀ p ∈ kn, L p.1 = true → a.tmps.getD p.2.1 undef = p.2.2) → (∀ t, notDst l t = true → a.tmps.getD t undef = a0.tmps.getD t undef) → J L (fun t => a.tmps.getD t undef) w →
    (∀ v w', (∀ p ∈ kn, p.1 = i → v = p.2.2) → J (fun j => j == i || L j) (fun t => if o.dst = some t then v else a.tmps.getD t undef) w' → K (a.put o.dst v) w') →
    if guardOk l.toArray o a = true then Oper.wp P o a w K Q else K (a.put o.dst undef) w
def StepsJ (P : Program) (l : List Oper) (Q : Exit → Act → World → Prop) (a0 : Act) (kn : List (Nat × Nat × Value)) (J : (Nat → Bool) → (Nat → Value) → World → Prop) : List Oper → Nat → Prop
  | [], _ => True
  | o :: r, i => StepJ P l Q a0 kn J i o ∧ StepsJ P l Q a0 kn J r (i + 1)

section
variable {P : Program} {w0 : World} {a0 : Act} {l : List Oper} {Q : Exit → Act → World → Prop} {kn : List (Nat × Nat × Value)} {J : (Nat → Bool) → (Nat → Value) → World → Prop}

theorem StepsJ.at {r : List Oper} {k : Nat} (h : StepsJ P l Q a0 kn J r k) : ∀ i o, r[i]? = some o → StepJ P l Q a0 kn J (k + i) o := by
  induction r generalizing k with
  | nil => intro i o hi; simp at hi
  | cons x r ih =>
    intro i o hi
    cases i with
    | zero => simp at hi; subst hi; exact h.1
    | succ i =>
      have := ih h.2 i o (by simpa using hi)
      rwa [show k + 1 + i = k + (i + 1) by omega] at this

structure InvJ (l : List Oper) (a0 : Act) (kn : List (Nat × Nat × Value)) (J : (Nat → Bool) → (Nat → Value) → World → Prop) (listed : Array Bool) (a : Act) (w : World) : Prop where
  size : listed.size = l.toArray.size
  tmps : a.tmps.size = a0.tmps.size
  defers : a.defers = a0.defers
  kn : ∀ p ∈ kn, listed.getD p.1 true = true → a.tmps.getD p.2.1 undef = p.2.2
  old : ∀ t, notDst l t = true → a.tmps.getD t undef = a0.tmps.getD t undef
  j : J (fun j => listed.getD j true) (fun t => a.tmps.getD t undef) w

theorem known_spec (hk : knownB l kn = true) {p : Nat × Nat × Value} (hp : p ∈ kn) : ∃ o, l[p.1]? = some o ∧ o.dst = some p.2.1 := by
  have := List.all_eq_true.1 hk p hp
  split at this
  · rename_i o ho
    exact ⟨o, ho, by simpa using this⟩
  · cases this
theorem InvJ.step (hB : growB l.toArray a0.tmps.size = true) (hk : knownB l kn = true) {listed : Array Bool} {a : Act} {w w' : World} (I : InvJ l a0 kn J listed a w) {i : Nat} {o : Oper} (ho : l[i]? = some o) {v : Value}
    (hv : ∀ p ∈ kn, p.1 = i → v = p.2.2) (hj : J (fun j => j == i || listed.getD j true) (fun t => if o.dst = some t then v else a.tmps.getD t undef) w') :
    InvJ l a0 kn J (listed.setIfInBounds i true) (a.put o.dst v) w' := by
  have hol : l.toArray[i]? = some o := by simpa using ho
  have hi : i < listed.size := by rw [I.size]; exact lt_of_get hol
  have hS := growB_spec hB hol
  refine ⟨by simp [I.size], by rw [put_size, I.tmps], by rw [put_defers, I.defers], ?_, ?_, ?_⟩
  · intro p hp hl
    obtain ⟨op, hop, hd⟩ := known_spec hk hp
    by_cases hpi : p.1 = i
    · have : op = o := by rw [hpi, ho] at hop; exact (Option.some.inj hop).symm
      subst this
      rw [hd, put_getD_same _ _ _ (by rw [I.tmps]; exact (one_dst hS hd).1)]
      exact hv p hp hpi
    · have hl' : listed.getD p.1 true = true := by
        rcases (getD_set_iff true hi).1 hl with h | h
        · exact absurd h hpi
        · exact h
      rw [put_getD_ne _ _ _ _ (fun hd' => (one_dst hS hd').2 p.1 op (by simpa using hop) hpi hd)]
      exact I.kn p hp hl'
  · intro t ht
    have := List.all_eq_true.1 ht o (List.mem_of_getElem? ho)
    rw [put_getD_ne _ _ _ _ (by simpa using this)]
    exact I.old t ht
  · have e1 : (fun j => (listed.setIfInBounds i true).getD j true) = fun j => j == i || listed.getD j true := by
      funext j
      have := getD_set_iff (l := listed) (i := i) (j := j) true hi
      rw [Bool.eq_iff_iff, this]
      simp
    have e2 : (fun t => (a.put o.dst v).tmps.getD t undef) = fun t => if o.dst = some t then v else a.tmps.getD t undef := by
      funext t
      split
      · rename_i hd
        rw [hd, put_getD_same _ _ _ (by rw [I.tmps]; exact (one_dst hS hd).1)]
      · rename_i hd
        rw [put_getD_ne _ _ _ _ hd]
    rw [e1, e2]
    exact hj

/-- **A drawn region under an invariant.** -/
theorem wp_region_inv {id : Nat} (kn : List (Nat × Nat × Value)) (sp : List Nat) (J : (Nat → Bool) → (Nat → Value) → World → Prop) (hm : P.follows .mixedOrders = true) (hB : growB l.toArray a0.tmps.size = true)
    (hk : knownB l kn = true) (hc : coverB l kn sp = true) (hsp : spB l sp = true)
    (h0 : J (fun j => decide (l.length ≤ j)) (fun t => a0.tmps.getD t undef) w0.drew) (hs : StepsJ P l Q a0 kn J l 0)
    (hd : ∀ (u : Nat → Value) (w : World), J (fun _ => true) u w → Q .normal (putAll ((kn.map fun p => (some p.2.1, p.2.2)) ++ sp.map fun d => (some d, u d)) a0) w) :
    (Code.region id l.toArray true).wp P Q a0 w0 := by
  refine wp_region_any hm ?_
  have last : ∀ (listed : Array Bool) (a : Act) (w : World), InvJ l a0 kn J listed a w → (∀ j, j < l.toArray.size → listed.getD j true = true) → Q .normal a w := by
    intro listed a w I hall
    have hL : (fun j => listed.getD j true) = fun _ => true := by
      funext j
      rcases Nat.lt_or_ge j l.toArray.size with h | h
      · exact hall j h
      · have : listed.size ≤ j := by rw [I.size]; exact h
        simp [Array.getD_eq_getD_getElem?, Array.getElem?_eq_none this]
    have hj := I.j
    rw [hL] at hj
    have := hd _ w hj
    rwa [putAll_eq _ a0 I.tmps I.defers] at this
    · intro d v hm'
      rcases List.mem_append.1 hm' with h | h
      · obtain ⟨p, hp, he⟩ := List.mem_map.1 h
        obtain ⟨he1, he2⟩ := Prod.mk.inj he
        have he1 := Option.some.inj he1
        obtain ⟨op, hop, hdd⟩ := known_spec hk hp
        have hol : l.toArray[p.1]? = some op := by simpa using hop
        subst he1 he2
        exact ⟨(one_dst (growB_spec hB hol) hdd).1, I.kn p hp (hall _ (lt_of_get hol))⟩
      · obtain ⟨d', hd', he⟩ := List.mem_map.1 h
        obtain ⟨he1, he2⟩ := Prod.mk.inj he
        have he1 := Option.some.inj he1
        subst he1 he2
        have := List.all_eq_true.1 hsp d' hd'
        obtain ⟨o, ho, hdo⟩ := List.any_eq_true.1 this
        obtain ⟨i, hi⟩ := List.mem_iff_getElem?.1 ho
        have hol : l.toArray[i]? = some o := by simpa using hi
        exact ⟨(one_dst (growB_spec hB hol) (by simpa using hdo)).1, rfl⟩
    · intro t ht
      refine I.old t (List.all_eq_true.2 fun o ho => ?_)
      have := List.all_eq_true.1 hc o ho
      cases hdo : o.dst with
      | none => rfl
      | some d =>
        rw [hdo] at this
        rw [bne_iff_ne]
        intro e
        have e := Option.some.inj e
        subst e
        rcases Bool.or_eq_true_iff.1 this with h | h
        · obtain ⟨p, hp, he⟩ := List.any_eq_true.1 h
          refine ht p.2.2 (List.mem_append.2 (Or.inl (List.mem_map.2 ⟨p, hp, ?_⟩)))
          rw [beq_iff_eq.1 he]
        · exact ht _ (List.mem_append.2 (Or.inr (List.mem_map.2 ⟨d, by simpa using h, rfl⟩)))
  have main : ∀ (fuel : Nat) (listed : Array Bool) (a : Act) (w : World), left l.toArray.size listed ≤ fuel → InvJ l a0 kn J listed a w → wpAny P .any l.toArray Q fuel listed a w := by
    intro fuel
    induction fuel with
    | zero =>
      intro listed a w hf I
      have hall : ∀ j, j < l.toArray.size → listed.getD j true = true := fun j hj => left_zero (by omega) hj
      refine ⟨?_, last listed a w I hall⟩
      cases hr : Region.ready .any l.toArray listed with
      | nil => rfl
      | cons x xs =>
        have hx : x ∈ Region.ready .any l.toArray listed := by rw [hr]; simp
        obtain ⟨h1, h2, _⟩ := mem_ready'.1 hx
        rw [hall x h1] at h2
        cases h2
    | succ fuel ih =>
      intro listed a w hf I
      refine ⟨fun hr => last listed a w I (all_listed hB I.size hr), fun i hi => ?_⟩
      obtain ⟨h1, h2, o, ho, he⟩ := mem_ready'.1 hi
      have hol : l[i]? = some o := by simpa using ho
      have hst := hs.at i o hol
      rw [Nat.zero_add] at hst
      refine wpOp_step ho fun K' hK => ?_
      rw [guardOk_eq]
      have := hst (fun j => listed.getD j true) a w K' I.tmps h2 (fun e hem hb => by
        have := he e hem hb
        have hes : e.on < listed.size := by
          rcases Nat.lt_or_ge e.on listed.size with h | h
          · exact h
          · simp [Array.getD_eq_getD_getElem?, Array.getElem?_eq_none h] at this
        simpa [Array.getD_eq_getD_getElem?, hes] using this) I.kn I.old I.j (fun v w' hv hj => hK _ _ (ih _ _ _ (by have := left_set l.toArray.size listed i h1 I.size h2; omega) (I.step hB hk hol hv hj)))
      exact this
  have hn : ∀ j, (Array.replicate l.toArray.size false).getD j true = decide (l.length ≤ j) := by
    intro j
    rcases Nat.lt_or_ge j l.length with h | h
    · have : ¬ l.length ≤ j := by omega
      simp [Array.getD_eq_getD_getElem?, h, this]
    · simp [Array.getD_eq_getD_getElem?, h, Nat.not_lt.2 h]
  refine main _ _ _ _ ?_ ⟨by simp, rfl, rfl, fun p hp hl => ?_, fun _ _ => rfl, ?_⟩
  · unfold left
    exact Nat.le_trans (List.length_filter_le _ _) (by simp)
  · obtain ⟨op, hop, _⟩ := known_spec hk hp
    rw [hn] at hl
    have := lt_of_get (show l.toArray[p.1]? = some op by simpa using hop)
    simp at hl this
    omega
  · rw [show (fun j => (Array.replicate l.toArray.size false).getD j true) = fun j => decide (l.length ≤ j) from funext hn]
    exact h0
end
end Go.Proofs.YtjmglbppmolipaaGreatDoor
