/- As XGrow's theorem, for a region of which one operation stores into memory, behind all the others but such as only move values (one walk in the order of the text serves every order). -/
import Derived.Test.YtboafongjbdmoaaDoorGrow
namespace Go.Proofs.YtboafongjbdmoaaDoor
open Go.RowKit

/-- operations that look at no world -/
def pureB : Op → Bool
  | .move _ | .assign _ | .extract _ _ => true
  | _ => false
theorem pure_run (P : Program) (ρ : Operand → Value) (o : Oper) (h : pureB o.op = true) :
    (∃ u, ∀ W, (execOp ρ o).run P W = .ok (.value u) W) ∨ (∃ x, ∀ W, (execOp ρ o).run P W = .halt x W) := by
  cases ho : o.op <;> rw [ho] at h <;> try cases h
  case move x => exact Or.inl ⟨ρ x, fun W => by unfold execOp; rw [ho]; rfl⟩
  case assign x => exact Or.inl ⟨ρ x, fun W => by unfold execOp; rw [ho]; rfl⟩
  case extract x i =>
    have e : ∀ W, (execOp ρ o).run P W = ((Instr.extract (ρ x) i).run P W).andThen fun v w => .ok (.value v) w := fun W => by
      unfold execOp; rw [ho]; simp
    cases hx : ρ x with
    | tuple vs =>
      cases hv : vs[i]? with
      | some u => exact Or.inl ⟨u, fun W => by rw [e, hx]; unfold Instr.extract; simp only [hv]; rfl⟩
      | none => exact Or.inr ⟨_, fun W => by rw [e, hx]; unfold Instr.extract; simp only [hv]; rfl⟩
    | _ => exact Or.inr ⟨_, fun W => by rw [e, hx]; rfl⟩

def isStore : Op → Bool
  | .store _ (.tmp _) (.tmp _) => true
  | _ => false
def storeOk (ops : Array Oper) (q : Nat) (oq : Oper) : Bool :=
  oq.guard.isNone && oq.dst.isNone && (match oq.op with
    | .store _ (.tmp p) (.tmp v) => (List.range ops.size).all fun i => i == q || (match ops[i]? with
        | none => false
        | some o => !isStore o.op && ((oq.after.any fun e => Region.binds .any e && e.on == i) || (pureB o.op && o.dst != some p && o.dst != some v)))
    | _ => false)
theorem storeOk_spec {ops : Array Oper} {q : Nat} {oq : Oper} (h : storeOk ops q oq = true) :
    oq.guard = none ∧ oq.dst = none ∧ isStore oq.op = true ∧ ∃ T p v, oq.op = .store T (.tmp p) (.tmp v) ∧ ∀ i o, ops[i]? = some o → i ≠ q → isStore o.op = false ∧
      ((∃ e ∈ oq.after, Region.binds .any e = true ∧ e.on = i) ∨ (pureB o.op = true ∧ o.dst ≠ some p ∧ o.dst ≠ some v)) := by
  unfold storeOk at h
  rw [Bool.and_eq_true, Bool.and_eq_true] at h
  obtain ⟨⟨h1, h2⟩, h3⟩ := h
  refine ⟨by simpa using h1, by simpa using h2, ?_⟩
  split at h3
  · rename_i T p v hop
    refine ⟨by rw [hop]; rfl, T, p, v, hop, fun i o ho hi => ?_⟩
    have := List.all_eq_true.1 h3 i (by simpa using lt_of_get ho)
    simp only [ho, Bool.or_eq_true, Bool.and_eq_true, Bool.not_eq_true', beq_iff_eq, bne_iff_ne, ne_eq] at this
    rcases this with h | ⟨h4, h5⟩
    · exact absurd h hi
    · refine ⟨h4, h5.imp (fun h => ?_) (fun h => ⟨h.1.1, h.1.2, h.2⟩)⟩
      obtain ⟨e, he, h6⟩ := Array.any_eq_true'.1 h
      exact ⟨e, he, by simpa using h6⟩
  · cases h3

/-- what one operation owes; the store owes that it comes through -/
def OwesS (P : Program) (ops : Array Oper) (w0 : World) (a0 : Act) (o : Oper) (V : AV) (fs : Facts) : Prop :=
  if isStore o.op = true then V = Is undef ∧ ∀ a w, Ext w0 w → a.tmps.size = a0.tmps.size → Slots fs a0 a w (o.looksAt ops) → ∃ w', (execOp a.eval o).run P w = .ok .skip w'
  else Owes P ops w0 a0 o V fs
def wpGrowS (P : Program) (ops : Array Oper) (w0 : World) (a0 : Act) (Fin : Facts → Prop) : List Oper → Facts → Prop
  | [], fs => Fin fs
  | o :: rest, fs => ∃ V, OwesS P ops w0 a0 o V fs ∧ wpGrowS P ops w0 a0 Fin rest ((o.dst, V) :: fs)

section
variable {P : Program} {ops : Array Oper} {w0 : World} {a0 : Act}
theorem tableS {Fin : Facts → Prop} : ∀ (l : List Oper) (fs : Facts), wpGrowS P ops w0 a0 Fin l fs →
    ∃ V : Nat → AV, (∀ i o, l[i]? = some o → OwesS P ops w0 a0 o (V i) (upto i l V fs)) ∧ Fin (upto l.length l V fs)
  | [], fs, h => ⟨fun _ => Is undef, fun i o hi => by simp at hi, h⟩
  | o :: rest, fs, ⟨V0, h0, h1⟩ => by
    obtain ⟨V', h2, h3⟩ := tableS rest _ h1
    refine ⟨fun i => match i with | 0 => V0 | k + 1 => V' k, ?_, h3⟩
    intro i oi hi
    match i with
    | 0 => simp at hi; subst hi; exact h0
    | k + 1 => exact h2 k oi (by simpa using hi)

/-- **One walk in the order of the text serves every order.** -/
theorem wp_region_store {id : Nat} {Q : Exit → Act → World → Prop} {l : List Oper} (q : Nat) {oq : Oper} (hq : l[q]? = some oq) (hS : storeOk l.toArray q oq = true) (hm : P.follows .mixedOrders = true) (hB : growB l.toArray a0.tmps.size = true)
    (h : wpGrowS P l.toArray w0 a0 (fun fs => ∀ w, Ext w0 w → FinAt w (fun a => ∃ w', (execOp a.eval oq).run P w = .ok .skip w' ∧ Q .normal a w') fs.reverse a0) l []) : (Code.region id l.toArray true).wp P Q a0 w0 := by
  refine wp_region_any hm ?_
  obtain ⟨V, hV, hF⟩ := tableS l [] h
  obtain ⟨hgq, hdq, hsq, T, p, vv, hop, hoth⟩ := storeOk_spec hS
  have hq' : l.toArray[q]? = some oq := by simpa using hq
  have hql : q < l.length := by have := lt_of_get hq'; simpa using this
  have hcon : ∀ a b : Act, a.tmps.getD p undef = b.tmps.getD p undef → a.tmps.getD vv undef = b.tmps.getD vv undef → execOp a.eval oq = execOp b.eval oq := by
    intro a b h1 h2
    have e1 : a.eval (.tmp p) = b.eval (.tmp p) := h1
    have e2 : a.eval (.tmp vv) = b.eval (.tmp vv) := h2
    unfold execOp
    rw [hop]
    simp only [e1, e2]
  -- what lies beyond the table is of no account
  have hV' : ∃ V' : Nat → AV, (∀ i, i < l.length → V' i = V i) ∧ ∀ i, Up (V' i) := by
    refine ⟨fun i => if i < l.length then V i else Is undef, fun i hi => if_pos hi, fun i => ?_⟩
    simp only []
    split
    · rename_i hi
      have := hV i l[i] (by simp [hi])
      unfold OwesS at this
      split at this
      · rw [this.1]; exact Up.is _
      · exact this.1
    · exact Up.is _
  obtain ⟨V', hVV, hup⟩ := hV'
  have main : ∀ (fuel : Nat) (listed : Array Bool) (a : Act) (w : World), left l.toArray.size listed ≤ fuel → Inv V' l.toArray w0 a0 listed a w → ∀ wr, (listed.getD q true = false → wr = w) → (listed.getD q true = true → (execOp a.eval oq).run P w = .ok .skip wr) → wpAny P .any l.toArray Q fuel listed a wr := by
    have last : ∀ (listed : Array Bool) (a : Act) (w wr : World), Inv V' l.toArray w0 a0 listed a w → (listed.getD q true = true → (execOp a.eval oq).run P w = .ok .skip wr) → (∀ j, j < l.toArray.size → listed.getD j true = true) → Q .normal a wr := by
      intro listed a w wr I hrun hall
      have hval : ∀ i, i < l.length → ∃ v, V i w v ∧ ∀ d, l[i]?.bind (·.dst) = some d → a.tmps.getD d undef = v := by
        intro i hi
        obtain ⟨v, h1, h2⟩ := I.vals i l[i] (by simp [hi]) (hall i (by simpa using hi))
        exact ⟨v, by rw [← hVV i hi]; exact h1, fun d hd => h2 d (by simpa [hi] using hd)⟩
      have hch : ∃ vs : Nat → Value, ∀ i, i < l.length → V i w (vs i) ∧ ∀ d, l[i]?.bind (·.dst) = some d → a.tmps.getD d undef = vs i := by
        refine ⟨fun i => if hi : i < l.length then Classical.choose (hval i hi) else undef, fun i hi => ?_⟩
        simp only [hi, dite_true]
        exact Classical.choose_spec (hval i hi)
      obtain ⟨vs, hvs⟩ := hch
      obtain ⟨L, hL, hK⟩ := finAt_all (w := w) (K := fun a => ∃ w', (execOp a.eval oq).run P w = .ok .skip w' ∧ Q .normal a w') l V vs [] a0 [] (hF w I.ext) (fun i hi => (hvs i hi).1) (fun K' b' h' => by simpa [FinAt, putAll] using h')
      have : putAll L a0 = a := by
        refine putAll_eq L a0 I.tmps I.defers (fun d v hm => ?_) (fun t ht => ?_)
        · rw [hL, List.nil_append, List.mem_mapIdx] at hm
          obtain ⟨i, hi, he⟩ := hm
          simp only [Prod.mk.injEq] at he
          obtain ⟨he1, he2⟩ := he
          have hoi : l.toArray[i]? = some l[i] := by simp [hi]
          exact ⟨(one_dst (growB_spec hB hoi) he1).1, by rw [← he2]; exact (hvs i hi).2 d (by simpa [hi] using he1)⟩
        · refine I.old t fun j oj hoj _ hd => ?_
          have hj := lt_of_get hoj
          have hj' : j < l.length := by simpa using hj
          refine ht (vs j) ?_
          rw [hL, List.nil_append, List.mem_mapIdx]
          refine ⟨j, hj', ?_⟩
          have : l[j] = oj := by simpa [hj'] using hoj
          rw [this, hd]
      rw [this] at hK
      obtain ⟨w', h1, h2⟩ := hK
      have h3 := hrun (hall q (by simpa using hql))
      rw [h1] at h3
      injection h3 with _ h4
      rw [← h4]
      exact h2
    intro fuel
    induction fuel with
    | zero =>
      intro listed a w hf I wr hr1 hr2
      have hall : ∀ j, j < l.toArray.size → listed.getD j true = true := fun j hj => left_zero (by omega) hj
      refine ⟨?_, last listed a w wr I hr2 hall⟩
      cases hr : Region.ready .any l.toArray listed with
      | nil => rfl
      | cons x xs =>
        have hx : x ∈ Region.ready .any l.toArray listed := by rw [hr]; simp
        obtain ⟨h1, h2, _⟩ := mem_ready'.1 hx
        rw [hall x h1] at h2
        cases h2
    | succ fuel ih =>
      intro listed a w hf I wr hr1 hr2
      refine ⟨fun hr => last listed a w wr I hr2 (all_listed hB I.size hr), fun i hi => ?_⟩
      obtain ⟨h1, h2, o, ho, he⟩ := mem_ready'.1 hi
      have hol : l[i]? = some o := by simpa using ho
      have hil : i < l.length := by simpa using h1
      have his : i < listed.size := by rw [I.size]; exact h1
      have hfuel : left l.toArray.size (listed.setIfInBounds i true) ≤ fuel := by have := left_set l.toArray.size listed i h1 I.size h2; omega
      have hsl := I.slots hB hol h2 he
      have hcong : ∀ (j : Nat) (l' : List Oper) (W W' : Nat → AV) (fs : Facts), (∀ k, k < j → W k = W' k) → upto j l' W fs = upto j l' W' fs := by
        intro j
        induction j with
        | zero => intro l' W W' fs _; cases l' <;> rfl
        | succ j ihj =>
          intro l' W W' fs hk
          cases l' with
          | nil => rfl
          | cons x l' =>
            simp only [upto]
            rw [hk 0 (by omega)]
            exact ihj l' _ _ _ fun k hk' => hk (k + 1) (by omega)
      rw [hcong i l V' V [] (fun k hk => hVV k (by omega))] at hsl
      have hg := hV i o hol
      unfold OwesS at hg
      by_cases hiq : i = q
      · -- the store itself
        subst hiq
        obtain rfl : oq = o := by rw [hq] at hol; exact Option.some.inj hol
        rw [if_pos hsq] at hg
        obtain ⟨hVu, hrun⟩ := hg
        obtain ⟨w', hw'⟩ := hrun a w I.ext I.tmps hsl
        obtain rfl : wr = w := hr1 h2
        have I2 := I.step hup hB ho h2 he (Ext.refl _) (v := undef) (by rw [hVV i hil, hVu]; exact is_skip)
        rw [hdq] at I2
        unfold wpOp
        rw [ho]
        show if Region.wanted oq (yielded l.toArray a.tmps) = true then _ else _
        rw [guardOk_eq, if_pos (by unfold guardOk; rw [hgq])]
        refine Or.inl ?_
        unfold Oper.wp
        rw [hw']
        simp only [Oper.upon]
        rw [hdq]
        exact ih _ _ _ hfuel I2 w' (fun h => by rw [(getD_set_iff true his).2 (Or.inl rfl)] at h; cases h) (fun _ => hw')
      obtain ⟨hns, hcase⟩ := hoth i o ho hiq
      rw [if_neg (by rw [hns]; decide)] at hg
      have hg := hg.2 a w I.ext I.tmps hsl
      have hqi : (listed.setIfInBounds i true).getD q true = listed.getD q true := by
        have hne : ¬ i = q := hiq
        simp [Array.getD_eq_getD_getElem?, hne]
      unfold growAt at hg
      cases hlq : listed.getD q true with
      | false =>
        -- the store is still to come
        obtain rfl : wr = w := hr1 hlq
        have step : ∀ v w', Ext wr w' → V i w' v → wpAny P .any l.toArray Q fuel (listed.setIfInBounds i true) (a.put o.dst v) w' := fun v w' hw hv =>
          ih _ _ _ hfuel (I.step hup hB ho h2 he hw (by rw [hVV i hil]; exact hv)) w' (fun _ => rfl) (fun h => by rw [hqi, hlq] at h; cases h)
        unfold wpOp
        rw [ho]
        show if Region.wanted o (yielded l.toArray a.tmps) = true then _ else _
        rw [guardOk_eq]
        split
        · rename_i hwant
          rw [if_pos hwant] at hg
          refine Or.inl ?_
          unfold Oper.wp
          generalize (execOp a.eval o).run P wr = r at hg ⊢
          cases r with
          | ok n w' =>
            cases n <;> simp only [growUpon] at hg <;> simp only [Oper.upon]
            case value u => exact step u w' hg.1 hg.2
            case skip => exact step undef w' hg.1 hg.2
            case enter f args =>
              exact hg.2.mono fun e w'' ⟨v, he', hx, hv⟩ => by subst he'; exact step v w'' (hg.1.trans hx) hv
          | halt x w' => simp only [growUpon] at hg
        · rename_i hwant
          rw [if_neg hwant] at hg
          exact step undef wr (Ext.refl _) hg
      | true =>
        -- the store is done: only such as look at no world are left
        rcases hcase with ⟨e, he1, he2, he3⟩ | ⟨hpu, hdp, hdv⟩
        · have hx := I.back q oq hq' hlq e he1 he2
          rw [he3] at hx
          simp [Array.getD_eq_getD_getElem?, his] at hx h2
          rw [hx] at h2
          cases h2
        have step : ∀ v, V i w v → wpAny P .any l.toArray Q fuel (listed.setIfInBounds i true) (a.put o.dst v) wr := fun v hv =>
          ih _ _ _ hfuel (I.step hup hB ho h2 he (Ext.refl _) (by rw [hVV i hil]; exact hv)) wr (fun h => by rw [hqi, hlq] at h; cases h)
            (fun _ => by rw [hcon (a.put o.dst v) a (put_getD_ne _ _ _ _ hdp) (put_getD_ne _ _ _ _ hdv)]; exact hr2 hlq)
        unfold wpOp
        rw [ho]
        show if Region.wanted o (yielded l.toArray a.tmps) = true then _ else _
        rw [guardOk_eq]
        split
        · rename_i hwant
          rw [if_pos hwant] at hg
          refine Or.inl ?_
          unfold Oper.wp
          rcases pure_run P a.eval o hpu with ⟨u, hu⟩ | ⟨x, hx⟩
          · rw [hu] at hg ⊢
            simp only [growUpon] at hg
            simp only [Oper.upon]
            exact step u hg.2
          · rw [hx] at hg
            simp only [growUpon] at hg
        · rename_i hwant
          rw [if_neg hwant] at hg
          exact step undef hg
  have hn : ∀ j, (Array.replicate l.toArray.size false).getD j true = true → ¬ j < l.toArray.size := by
    intro j hj hlt
    have hlt' : j < l.length := by simpa using hlt
    simp [Array.getD_eq_getD_getElem?, hlt'] at hj
  refine main _ _ _ _ ?_ ⟨by simp, (Ext.refl w0).drew, rfl, rfl, fun j o ho hl => absurd (lt_of_get ho) (hn j hl), fun _ _ => rfl, fun j o ho hl => absurd (lt_of_get ho) (hn j hl)⟩ _ (fun _ => rfl) (fun hl => absurd (by simpa using hql) (hn q hl))
  unfold left
  exact Nat.le_trans (List.length_filter_le _ _) (by simp)


theorem grow_isS {Fin : Facts → Prop} {o : Oper} {rest : List Oper} {fs : Facts} {c : Value} (hs : isStore o.op = false := by rfl)
    (h : ∀ a w, Ext w0 w → a.tmps.size = a0.tmps.size → Slots fs a0 a w (o.looksAt ops) → growAt P ops o a w (Is c))
    (k : wpGrowS P ops w0 a0 Fin rest ((o.dst, Is c) :: fs)) : wpGrowS P ops w0 a0 Fin (o :: rest) fs := ⟨Is c, by unfold OwesS; rw [if_neg (by rw [hs]; decide)]; exact ⟨Up.is c, h⟩, k⟩
theorem grow_inS {Fin : Facts → Prop} {o : Oper} {rest : List Oper} {fs : Facts} (V : AV) (hV : Up V) (hs : isStore o.op = false := by rfl)
    (h : ∀ a w, Ext w0 w → a.tmps.size = a0.tmps.size → Slots fs a0 a w (o.looksAt ops) → growAt P ops o a w V)
    (k : wpGrowS P ops w0 a0 Fin rest ((o.dst, V) :: fs)) : wpGrowS P ops w0 a0 Fin (o :: rest) fs := ⟨V, by unfold OwesS; rw [if_neg (by rw [hs]; decide)]; exact ⟨hV, h⟩, k⟩
theorem grow_st {Fin : Facts → Prop} {o : Oper} {rest : List Oper} {fs : Facts} (hs : isStore o.op = true)
    (h : ∀ a w, Ext w0 w → a.tmps.size = a0.tmps.size → Slots fs a0 a w (o.looksAt ops) → ∃ w', (execOp a.eval o).run P w = .ok .skip w')
    (k : wpGrowS P ops w0 a0 Fin rest ((o.dst, Is undef) :: fs)) : wpGrowS P ops w0 a0 Fin (o :: rest) fs := ⟨Is undef, by unfold OwesS; rw [if_pos hs]; exact ⟨rfl, h⟩, k⟩
theorem grow_finS {K : Act → World → Prop} {t : Array Value} {ds : List Deferred} {fs : Facts}
    (h : ∀ w, Ext w0 w → FinT w (fun t => K ⟨t, ds⟩ w) fs.reverse t) :
    wpGrowS P ops w0 ⟨t, ds⟩ (fun fs => ∀ w, Ext w0 w → FinAt w (fun a => K a w) fs.reverse ⟨t, ds⟩) [] fs := fun w hw => finT_at ds _ _ (h w hw)
/-- a pointer to new cells that nobody else writes -/
def Box (w0 : World) (C : Array Value) (T : TypeId) : AV := fun w v => ∃ b, v = .pointer (some ⟨b, 0, none⟩) ∧ w0.heap.size ≤ b ∧ w.heap[b]? = some (.cells C T (0, 0))
theorem Up.box (w0 : World) (C : Array Value) (T : TypeId) : Up (Box w0 C T) := by
  intro w w' v hx ⟨b, h1, h2, h3⟩
  have hb : b < w.heap.size := by
    rcases Nat.lt_or_ge b w.heap.size with h | h
    · exact h
    · simp [Array.getElem?_eq_none h] at h3
  exact ⟨b, h1, h2, by rw [hx.block b hb]; exact h3⟩
theorem box_new {w0 w : World} {C : Array Value} {T : TypeId} (h : Ext w0 w) : growUpon P w (Box w0 C T) (.ok (.value (.pointer (some ⟨w.heap.size, 0, none⟩))) (w.alloc (.cells C T))) :=
  ⟨(Ext.refl _).alloc (Nat.le_refl _) _, w.heap.size, rfl, h.size, by
    show (w.heap.push _)[w.heap.size]? = _
    simp⟩
end
end Go.Proofs.YtboafongjbdmoaaDoor
