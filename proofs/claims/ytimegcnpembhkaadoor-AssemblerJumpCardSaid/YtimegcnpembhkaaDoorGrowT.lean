/- As XGrow's theorem, for a region whose last operations (an append, a store, what depends on them) come behind all the others in every order: the others in one walk in the order of the text, the last ones as in a region that draws no order. -/
import Derived.Test.YtimegcnpembhkaaDoorGrow
namespace Go.Proofs.YtimegcnpembhkaaDoor
open Go.RowKit

def direct (o : Oper) : List Nat := (o.after.toList.filter fun e => Region.binds .any e).map (·.on)
/-- what comes ahead of the operations ms, as far as the first n of them tell -/
def spread (ops : Array Oper) : Nat → List Nat → List Nat
  | 0, ms => ms
  | j + 1, ms => spread ops j (if ms.contains j = true then (match ops[j]? with | some o => direct o ++ ms | none => ms) else ms)
/-- each operation from m on comes behind all ahead of it -/
def tailB (ops : Array Oper) (m : Nat) : Bool :=
  (List.range ops.size).all fun k => decide (k < m) || (match ops[k]? with | none => true | some o => (List.range k).all fun i => (spread ops k (direct o)).contains i)

section
variable {P : Program} {ops : Array Oper} {w0 : World} {a0 : Act}

theorem direct_mem {o : Oper} {i : Nat} : i ∈ direct o ↔ ∃ e ∈ o.after, Region.binds .any e = true ∧ e.on = i := by
  unfold direct
  rw [List.mem_map]
  constructor
  · rintro ⟨e, he, rfl⟩
    have := List.mem_filter.1 he
    exact ⟨e, by simpa using this.1, by simpa using this.2, rfl⟩
  · rintro ⟨e, he, hb, rfl⟩
    exact ⟨e, List.mem_filter.2 ⟨by simpa using he, by simpa using hb⟩, rfl⟩
theorem spread_ok {L : Nat → Prop} (hback : ∀ j o, ops[j]? = some o → L j → ∀ i ∈ direct o, L i) : ∀ n ms, (∀ m ∈ ms, L m) → ∀ m ∈ spread ops n ms, L m
  | 0, ms, h => h
  | j + 1, ms, h => by
    unfold spread
    refine spread_ok hback j _ ?_
    split
    · rename_i hc
      have hj := h j (by simpa using hc)
      split
      · rename_i o ho
        intro m hm
        rcases List.mem_append.1 hm with hm | hm
        · exact hback j o ho hj m hm
        · exact h m hm
      · exact h
    · exact h
theorem tail_spec {m k : Nat} {o : Oper} (h : tailB ops m = true) (hk : m ≤ k) (ho : ops[k]? = some o) (i : Nat) (hi : i < k) : i ∈ spread ops k (direct o) := by
  unfold tailB at h
  have h1 := List.all_eq_true.1 h k (by simpa using lt_of_get ho)
  rw [Bool.or_eq_true, decide_eq_true_eq, ho] at h1
  rcases h1 with h1 | h1
  · omega
  · have := List.all_eq_true.1 h1 i (by simpa using hi)
    simpa using this

theorem upto_take : ∀ (i : Nat) (l : List Oper) (m : Nat) (V : Nat → AV) (fs : Facts), i ≤ m → upto i (l.take m) V fs = upto i l V fs
  | 0, l, m, V, fs, _ => by cases l <;> cases m <;> rfl
  | i + 1, [], m, V, fs, _ => by rw [List.take_nil]
  | i + 1, o :: l, 0, V, fs, h => absurd h (by omega)
  | i + 1, o :: l, m + 1, V, fs, h => by
    rw [List.take_succ_cons]
    show upto i (l.take m) _ _ = upto i l _ _
    exact upto_take i l m _ _ (by omega)

theorem tail_run {Q : Exit → Act → World → Prop} {l : List Oper} {size m : Nat} (hB : growB l.toArray size = true) (hT : tailB l.toArray m = true) :
    ∀ (T : List Oper) (k : Nat), m ≤ k → T = l.drop k → ∀ (fuel : Nat) (listed : Array Bool) (a : Act) (w : World), left l.toArray.size listed ≤ fuel → listed.size = l.toArray.size →
      (∀ j, j < l.toArray.size → (listed.getD j true = true ↔ j < k)) → wpList P l.toArray Q T a w → wpAny P .any l.toArray Q fuel listed a w := by
  intro T
  induction T with
  | nil =>
    intro k hmk hTk fuel listed a w hf hs hl hw
    have hk : l.toArray.size ≤ k := by
      have := congrArg List.length hTk
      rw [List.length_drop] at this
      simp at this ⊢; omega
    have hall : ∀ j, j < l.toArray.size → listed.getD j true = true := fun j hj => (hl j hj).2 (by omega)
    have hr : Region.ready .any l.toArray listed = [] := by
      cases hr : Region.ready .any l.toArray listed with
      | nil => rfl
      | cons x xs =>
        have hx : x ∈ Region.ready .any l.toArray listed := by rw [hr]; simp
        obtain ⟨h1, h2, _⟩ := mem_ready'.1 hx
        rw [hall x h1] at h2
        cases h2
    cases fuel with
    | zero => exact ⟨hr, hw⟩
    | succ fuel => exact ⟨fun _ => hw, fun i hi => by rw [hr] at hi; cases hi⟩
  | cons o rest ih =>
    intro k hmk hTk fuel listed a w hf hs hl hw
    have hkl : k < l.length := by
      rcases Nat.lt_or_ge k l.length with h | h
      · exact h
      · rw [List.drop_eq_nil_of_le h] at hTk; cases hTk
    have hdc := List.drop_eq_getElem_cons hkl
    rw [hdc] at hTk
    obtain ⟨ho, hrest⟩ := List.cons.inj hTk
    have hok : l.toArray[k]? = some o := by rw [ho]; simp [hkl]
    have hks : k < l.toArray.size := lt_of_get hok
    have hnk : listed.getD k true = false := by
      cases hx : listed.getD k true with
      | false => rfl
      | true => exact absurd ((hl k hks).1 hx) (Nat.lt_irrefl _)
    cases fuel with
    | zero =>
      rw [left_zero (by omega) hks] at hnk
      cases hnk
    | succ fuel =>
      refine ⟨fun hr => ?_, fun i hi => ?_⟩
      · rw [all_listed (a0 := ⟨Array.replicate size undef, []⟩) (by simpa using hB) hs hr k hks] at hnk
        cases hnk
      · obtain ⟨h1, h2, oi, hoi, he⟩ := mem_ready'.1 hi
        have hik : ¬ i < k := fun h => by rw [(hl i h1).2 h] at h2; cases h2
        have hi2 : i = k := by
          rcases Nat.lt_or_ge k i with h | h
          · exfalso
            have hsp := tail_spec hT (by omega) hoi k h
            have hL : ∀ x ∈ spread l.toArray i (direct oi), listed.getD x false = true := by
              refine spread_ok (L := fun x => listed.getD x false = true) ?_ i _ ?_
              · intro j oj hoj hj x hx
                obtain ⟨e, he1, he2, rfl⟩ := direct_mem.1 hx
                have hjs := lt_of_get hoj
                have hjt : listed.getD j true = true := by
                  have : j < listed.size := by rw [hs]; exact hjs
                  simpa [Array.getD_eq_getD_getElem?, this] using hj
                have hjk := (hl j hjs).1 hjt
                have hlt := one_back (growB_spec hB hoj) he1 he2
                have hes : e.on < l.toArray.size := by omega
                have := (hl e.on hes).2 (by omega)
                have hes2 : e.on < listed.size := by rw [hs]; exact hes
                simpa [Array.getD_eq_getD_getElem?, hes2] using this
              · intro x hx
                obtain ⟨e, he1, he2, rfl⟩ := direct_mem.1 hx
                exact he e he1 he2
            have hk2 := hL k hsp
            have hk3 : k < listed.size := by rw [hs]; exact hks
            have : listed.getD k true = true := by simpa [Array.getD_eq_getD_getElem?, hk3] using hk2
            rw [this] at hnk; cases hnk
          · omega
        subst hi2
        have hil : i < listed.size := by rw [hs]; exact hks
        have hstep : ∀ a' w', wpList P l.toArray Q rest a' w' → wpAny P .any l.toArray Q fuel (listed.setIfInBounds i true) a' w' := fun a' w' hw' =>
          ih (i + 1) (by omega) hrest fuel _ a' w' (by have := left_set l.toArray.size listed i h1 hs h2; omega) (by simp [hs]) (fun j hj => by
            rw [getD_set_iff true hil]
            constructor
            · rintro (h | h)
              · omega
              · have := (hl j hj).1 h; omega
            · intro h
              rcases Nat.lt_or_ge j i with h' | h'
              · exact .inr ((hl j hj).2 h')
              · exact .inl (by omega)) hw'
        unfold wpOp
        rw [hok]
        show if Region.wanted o (yielded l.toArray a.tmps) = true then _ else _
        unfold wpList at hw
        split
        · rename_i hwant
          rw [if_pos hwant] at hw
          exact hw.imp (Oper.wp_mono hstep) id
        · rename_i hwant
          rw [if_neg hwant] at hw
          exact hstep _ _ hw

/-- **One walk in the order of the text serves every order.** -/
theorem wp_region_tail {id : Nat} {Q : Exit → Act → World → Prop} {l : List Oper} (m : Nat) (hml : m ≤ l.length) (hT : tailB l.toArray m = true) (hm : P.follows .mixedOrders = true) (hB : growB l.toArray a0.tmps.size = true)
    (h : wpGrow P l.toArray w0 a0 (fun fs => ∀ w, Ext w0 w → FinAt w (fun a => wpList P l.toArray Q (l.drop m) a w) fs.reverse a0) (l.take m) []) : (Code.region id l.toArray true).wp P Q a0 w0 := by
  refine wp_region_any hm ?_
  obtain ⟨V, hV, hF⟩ := table (l.take m) [] h
  have hlt : (l.take m).length = m := by rw [List.length_take]; omega
  rw [hlt] at hF
  have htk : ∀ i o, i < m → l[i]? = some o → (l.take m)[i]? = some o := fun i o hi ho => by rw [List.getElem?_take_of_lt hi]; exact ho
  -- what lies beyond the table is of no account
  have hV' : ∃ V' : Nat → AV, (∀ i, i < m → V' i = V i) ∧ ∀ i, Up (V' i) := by
    refine ⟨fun i => if i < m then V i else Is undef, fun i hi => if_pos hi, fun i => ?_⟩
    simp only []
    split
    · rename_i hi
      exact (hV i (l[i]'(by omega)) (htk i _ hi (by simp))).1
    · exact Up.is _
  obtain ⟨V', hVV, hup⟩ := hV'
  have main : ∀ (fuel : Nat) (listed : Array Bool) (a : Act) (w : World), left l.toArray.size listed ≤ fuel → Inv V' l.toArray w0 a0 listed a w → (∀ k, m ≤ k → k < l.toArray.size → listed.getD k true = false) → wpAny P .any l.toArray Q fuel listed a w := by
    have last : ∀ (fuel : Nat) (listed : Array Bool) (a : Act) (w : World), left l.toArray.size listed ≤ fuel → Inv V' l.toArray w0 a0 listed a w → (∀ k, m ≤ k → k < l.toArray.size → listed.getD k true = false) → (∀ j, j < m → listed.getD j true = true) → wpAny P .any l.toArray Q fuel listed a w := by
      intro fuel listed a w hf I hno hall
      refine tail_run hB hT (l.drop m) m (Nat.le_refl _) rfl fuel listed a w hf I.size (fun j hj => ⟨fun hx => ?_, hall j⟩) ?_
      · rcases Nat.lt_or_ge j m with h' | h'
        · exact h'
        · rw [hno j h' hj] at hx; cases hx
      have hval : ∀ i, i < m → ∃ v, V i w v ∧ ∀ d, l[i]?.bind (·.dst) = some d → a.tmps.getD d undef = v := by
        intro i hi
        obtain ⟨v, h1, h2⟩ := I.vals i (l[i]'(by omega)) (by simp) (hall i hi)
        exact ⟨v, by rw [← hVV i hi]; exact h1, fun d hd => h2 d (by simpa [show i < l.length by omega] using hd)⟩
      have hch : ∃ vs : Nat → Value, ∀ i, i < m → V i w (vs i) ∧ ∀ d, l[i]?.bind (·.dst) = some d → a.tmps.getD d undef = vs i := by
        refine ⟨fun i => if hi : i < m then Classical.choose (hval i hi) else undef, fun i hi => ?_⟩
        simp only [hi, dite_true]
        exact Classical.choose_spec (hval i hi)
      obtain ⟨vs, hvs⟩ := hch
      obtain ⟨L, hL, hK⟩ := finAt_all (w := w) (K := fun a => wpList P l.toArray Q (l.drop m) a w) (l.take m) V vs [] a0 [] (by rw [hlt]; exact hF w I.ext) (fun i hi => (hvs i (by rw [hlt] at hi; exact hi)).1) (fun K' b' h' => by simpa [FinAt, putAll] using h')
      have : putAll L a0 = a := by
        refine putAll_eq L a0 I.tmps I.defers (fun d v hm' => ?_) (fun t ht => ?_)
        · rw [hL, List.nil_append, List.mem_mapIdx] at hm'
          obtain ⟨i, hi, he⟩ := hm'
          simp only [Prod.mk.injEq] at he
          obtain ⟨he1, he2⟩ := he
          have him : i < m := by rw [hlt] at hi; exact hi
          have hil : i < l.length := by omega
          have hei : (l.take m)[i] = l[i] := by rw [List.getElem_take]
          rw [hei] at he1
          have hoi : l.toArray[i]? = some l[i] := by simp [hil]
          exact ⟨(one_dst (growB_spec hB hoi) he1).1, by rw [← he2]; exact (hvs i him).2 d (by simpa [hil] using he1)⟩
        · refine I.old t fun j oj hoj hlj hd => ?_
          have hj := lt_of_get hoj
          have hjl : j < l.length := by simpa using hj
          have hjm : j < m := by
            rcases Nat.lt_or_ge j m with h' | h'
            · exact h'
            · rw [hno j h' hj] at hlj; cases hlj
          refine ht (vs j) ?_
          rw [hL, List.nil_append, List.mem_mapIdx]
          refine ⟨j, by rw [hlt]; exact hjm, ?_⟩
          have h3 : l[j] = oj := by simpa [hjl] using hoj
          rw [List.getElem_take, h3, hd]
      rw [this] at hK
      exact hK
    intro fuel
    induction fuel with
    | zero =>
      intro listed a w hf I hno
      exact last 0 listed a w hf I hno fun j hj => left_zero (n := l.toArray.size) (by omega) (by simp; omega)
    | succ fuel ih =>
      intro listed a w hf I hno
      by_cases hall : ∀ j, j < m → listed.getD j true = true
      · exact last _ listed a w hf I hno hall
      refine ⟨fun hr => absurd (fun j hj => all_listed hB I.size hr j (by simp; omega)) hall, fun i hi => ?_⟩
      obtain ⟨h1, h2, o, ho, he⟩ := mem_ready'.1 hi
      have hol : l[i]? = some o := by simpa using ho
      have hil : i < l.length := by simpa using h1
      have him : i < m := by
        rcases Nat.lt_or_ge i m with h' | h'
        · exact h'
        · exfalso
          apply hall
          intro j hj
          have hL : ∀ x ∈ spread l.toArray i (direct o), listed.getD x false = true := by
            refine spread_ok (L := fun x => listed.getD x false = true) ?_ i _ ?_
            · intro j oj hoj hj x hx
              obtain ⟨e, he1, he2, rfl⟩ := direct_mem.1 hx
              have hjs : j < listed.size := by rw [I.size]; exact lt_of_get hoj
              exact I.back j oj hoj (by simpa [Array.getD_eq_getD_getElem?, hjs] using hj) e he1 he2
            · intro x hx
              obtain ⟨e, he1, he2, rfl⟩ := direct_mem.1 hx
              exact he e he1 he2
          have hj2 := hL j (tail_spec hT h' ho j (by omega))
          have hjs : j < listed.size := by rw [I.size]; simp; omega
          simpa [Array.getD_eq_getD_getElem?, hjs] using hj2
      have his : i < listed.size := by rw [I.size]; exact h1
      have step : ∀ v w', Ext w w' → V i w' v → wpAny P .any l.toArray Q fuel (listed.setIfInBounds i true) (a.put o.dst v) w' := fun v w' hw hv =>
        ih _ _ _ (by have := left_set l.toArray.size listed i h1 I.size h2; omega) (I.step hup hB ho h2 he hw (by rw [hVV i him]; exact hv)) (fun k hk1 hk2 => by
          cases hx : (listed.setIfInBounds i true).getD k true with
          | false => rfl
          | true =>
            rcases (getD_set_iff true his).1 hx with h3 | h3
            · omega
            · rw [hno k hk1 hk2] at h3; cases h3)
      have hsl := I.slots hB hol h2 he
      have hcong : ∀ (j : Nat) (l' : List Oper) (W W' : Nat → AV) (fs : Facts), (∀ k, k < j → W k = W' k) → upto j l' W fs = upto j l' W' fs := by
        intro j
        induction j with
        | zero => intro l' W W' fs _; cases l' <;> rfl
        | succ j ihj =>
          intro l' W W' fs hk
          cases l' with
          | nil => rfl
          | cons x l' =>
            simp only [upto]
            rw [hk 0 (by omega)]
            exact ihj l' _ _ _ fun k hk' => hk (k + 1) (by omega)
      rw [hcong i l V' V [] (fun k hk => hVV k (by omega)), ← upto_take i l m V [] (by omega)] at hsl
      have hg := (hV i o (htk i o him hol)).2 a w I.ext I.tmps hsl
      unfold wpOp
      rw [ho]
      show if Region.wanted o (yielded l.toArray a.tmps) = true then _ else _
      unfold growAt at hg
      rw [guardOk_eq]
      split
      · rename_i hwant
        rw [if_pos hwant] at hg
        refine Or.inl ?_
        unfold Oper.wp
        generalize (execOp a.eval o).run P w = r at hg ⊢
        cases r with
        | ok n w' =>
          cases n <;> simp only [growUpon] at hg <;> simp only [Oper.upon]
          case value u => exact step u w' hg.1 hg.2
          case skip => exact step undef w' hg.1 hg.2
          case enter f args =>
            exact hg.2.mono fun e w'' ⟨v, he', hx, hv⟩ => by subst he'; exact step v w'' (hg.1.trans hx) hv
        | halt x w' => simp only [growUpon] at hg
      · rename_i hwant
        rw [if_neg hwant] at hg
        exact step undef w (Ext.refl _) hg
  have hn : ∀ j, (Array.replicate l.toArray.size false).getD j true = true → ¬ j < l.toArray.size := by
    intro j hj hlt
    have hlt' : j < l.length := by simpa using hlt
    simp [Array.getD_eq_getD_getElem?, hlt'] at hj
  refine main _ _ _ _ ?_ ⟨by simp, (Ext.refl w0).drew, rfl, rfl, fun j o ho hl => absurd (lt_of_get ho) (hn j hl), fun _ _ => rfl, fun j o ho hl => absurd (lt_of_get ho) (hn j hl)⟩ ?_
  · unfold left
    exact Nat.le_trans (List.length_filter_le _ _) (by simp)
  · intro k _ hk
    cases hx : (Array.replicate l.toArray.size false).getD k true with
    | false => rfl
    | true => exact absurd hk (hn k hx)

theorem grow_finL {Q : Exit → Act → World → Prop} {T : List Oper} {t : Array Value} {ds : List Deferred} {fs : Facts}
    (h : ∀ w, Ext w0 w → FinT w (fun t => wpList P ops Q T ⟨t, ds⟩ w) fs.reverse t) :
    wpGrow P ops w0 ⟨t, ds⟩ (fun fs => ∀ w, Ext w0 w → FinAt w (fun a => wpList P ops Q T a w) fs.reverse ⟨t, ds⟩) [] fs := fun w hw => finT_at ds _ _ (h w hw)
end
end Go.Proofs.YtimegcnpembhkaaDoor
