/- A region that draws its order, whose operations and callees may make new memory but change nothing that was there: one walk in the order of the text serves every order. Each operation is shown in whatever larger world, knowing only what its own operands are known to be. -/
import Derived.WalkKit
import Derived.Handy
import Derived.Lib.Hide
namespace Go.Proofs.YtimegcnpembhkaaDoor
open Go.RowKit

/-- w' is w, grown: every block of w lies in w' as it was -/
abbrev Ext (w w' : World) : Prop := Below w.heap.size w w'
theorem Ext.refl (w : World) : Ext w w := Below.refl _ _
theorem Ext.trans {a b c : World} (h : Ext a b) (k : Ext b c) : Ext a c := Below.trans h (Below.mono k h.size)

/-- what is known of a value in a world -/
abbrev AV := World → Value → Prop
def Up (V : AV) : Prop := ∀ w w' v, Ext w w' → V w v → V w' v
/-- a value that is known -/
def Is (c : Value) : AV := fun _ v => v = c
theorem is_skip {w : World} : Is undef w undef := rfl
theorem Up.is (c : Value) : Up (Is c) := fun _ _ _ _ h => h

def growUpon (P : Program) (w : World) (V : AV) : Result Next → Prop
  | .ok (.value u) w' => Ext w w' ∧ V w' u
  | .ok .skip w' => Ext w w' ∧ V w' undef
  | .ok (.enter f args) w' => Ext w w' ∧ Calls P f args w' (fun e w'' => ∃ v, e = .returned v ∧ Ext w' w'' ∧ V w'' v)
  | _ => False

/-- is the operation wanted -/
def guardOk (ops : Array Oper) (o : Oper) (a : Act) : Bool :=
  match o.guard with
  | none => true
  | some (g, want) => match (ops[g]?).bind (·.dst) with
    | some d => (match a.tmps.getD d undef with | .bool b => b == want | _ => false)
    | none => false

theorem guardOk_eq (ops : Array Oper) (o : Oper) (a : Act) : Region.wanted o (yielded ops a.tmps) = guardOk ops o a := by
  unfold Region.wanted guardOk yielded
  cases o.guard with
  | none => rfl
  | some gw =>
    obtain ⟨g, want⟩ := gw
    simp only []
    cases hd : (ops[g]?).bind (·.dst) with
    | none => simp
    | some d =>
      simp only [Option.bind_some, Array.getD_eq_getD_getElem?]
      cases ht : a.tmps[d]? with
      | none => rfl
      | some v => cases v <;> simp

def growAt (P : Program) (ops : Array Oper) (o : Oper) (a : Act) (w : World) (V : AV) : Prop :=
  if guardOk ops o a = true then growUpon P w V ((execOp a.eval o).run P w) else V w undef

abbrev Facts := List (Option Tmp × AV)

def look : Facts → Tmp → Option AV
  | [], _ => none
  | (d, V) :: r, t => if d = some t then some V else look r t

def Slot (fs : Facts) (a0 a : Act) (w : World) (t : Tmp) : Prop :=
  match look fs t with
  | some V => V w (a.tmps.getD t undef)
  | none => a.tmps.getD t undef = a0.tmps.getD t undef

def Slots (fs : Facts) (a0 a : Act) (w : World) : List Tmp → Prop
  | [] => True
  | t :: r => Slot fs a0 a w t ∧ Slots fs a0 a w r

theorem Slots.of {fs : Facts} {a0 a : Act} {w : World} : ∀ {l : List Tmp}, (∀ t ∈ l, Slot fs a0 a w t) → Slots fs a0 a w l
  | [], _ => trivial
  | t :: _, h => ⟨h t (by simp), Slots.of fun s hs => h s (by simp [hs])⟩

/-- what one operation owes -/
def Owes (P : Program) (ops : Array Oper) (w0 : World) (a0 : Act) (o : Oper) (V : AV) (fs : Facts) : Prop :=
  Up V ∧ ∀ a w, Ext w0 w → a.tmps.size = a0.tmps.size → Slots fs a0 a w (o.looksAt ops) → growAt P ops o a w V

/-- the walk in the order of the text -/
def wpGrow (P : Program) (ops : Array Oper) (w0 : World) (a0 : Act) (Fin : Facts → Prop) : List Oper → Facts → Prop
  | [], fs => Fin fs
  | o :: rest, fs => ∃ V, Owes P ops w0 a0 o V fs ∧ wpGrow P ops w0 a0 Fin rest ((o.dst, V) :: fs)

/-- the end: whatever values as they are known -/
def FinAt (w : World) (K : Act → Prop) : Facts → Act → Prop
  | [], a => K a
  | (d, V) :: r, a => ∀ v, V w v → FinAt w K r (a.put d v)

/-- the edges that the theorem leans on -/
def growOne (ops : Array Oper) (n : Nat) (size : Nat) (j : Nat) (o : Oper) : Bool :=
  (o.after.all fun e => !Region.binds .any e || decide (e.on < j)) &&
  (match o.dst with
   | none => true
   | some d => decide (d < size) && (List.range n).all fun i => i == j || ((ops[i]?).bind (·.dst)) != some d) &&
  (o.looksAt ops).all fun t => (List.range n).all fun i =>
    ((ops[i]?).bind (·.dst)) != some t ||
      (decide (i < j) && o.after.any fun e => Region.binds .any e && e.on == i) ||
      (decide (j < i) && ((ops[i]?).map fun oi => oi.after.any fun e => Region.binds .any e && e.on == j).getD false)

def growB (ops : Array Oper) (size : Nat) : Bool :=
  (List.range ops.size).all fun j => match ops[j]? with
    | none => false
    | some o => growOne ops ops.size size j o

section
variable {P : Program} {ops : Array Oper} {w0 : World} {a0 : Act}

def upto : Nat → List Oper → (Nat → AV) → Facts → Facts
  | 0, _, _, fs => fs
  | _ + 1, [], _, fs => fs
  | i + 1, o :: rest, V, fs => upto i rest (fun k => V (k + 1)) ((o.dst, V 0) :: fs)

theorem table {Fin : Facts → Prop} : ∀ (l : List Oper) (fs : Facts), wpGrow P ops w0 a0 Fin l fs →
    ∃ V : Nat → AV, (∀ i o, l[i]? = some o → Owes P ops w0 a0 o (V i) (upto i l V fs)) ∧ Fin (upto l.length l V fs)
  | [], fs, h => ⟨fun _ => Is undef, fun i o hi => by simp at hi, h⟩
  | o :: rest, fs, ⟨V0, h0, h1⟩ => by
    obtain ⟨V', h2, h3⟩ := table rest _ h1
    refine ⟨fun i => match i with | 0 => V0 | k + 1 => V' k, ?_, h3⟩
    intro i oi hi
    match i with
    | 0 => simp at hi; subst hi; exact h0
    | k + 1 => exact h2 k oi (by simpa using hi)

theorem look_ext (t : Tmp) : ∀ (l : List Oper) (V : Nat → AV) (fs : Facts) (j : Nat), j ≤ l.length →
    (∃ i o, i < j ∧ l[i]? = some o ∧ o.dst = some t ∧ look (upto j l V fs) t = some (V i)) ∨
    ((∀ i o, i < j → l[i]? = some o → o.dst ≠ some t) ∧ look (upto j l V fs) t = look fs t)
  | _, _, _, 0, _ => Or.inr ⟨fun i _ hi => by omega, rfl⟩
  | [], _, _, j + 1, hj => by simp at hj
  | o :: rest, V, fs, j + 1, hj => by
    rcases look_ext t rest (fun k => V (k + 1)) ((o.dst, V 0) :: fs) j (by simpa using hj) with ⟨i, oi, h1, h2, h3, h4⟩ | ⟨h1, h2⟩
    · exact Or.inl ⟨i + 1, oi, by omega, by simpa using h2, h3, h4⟩
    · by_cases hd : o.dst = some t
      · exact Or.inl ⟨0, o, by omega, rfl, hd, by rw [upto, h2, look, if_pos hd]⟩
      · refine Or.inr ⟨fun i oi hi hoi => ?_, by rw [upto, h2, look, if_neg hd]⟩
        match i with
        | 0 => simp at hoi; subst hoi; exact hd
        | k + 1 => exact h1 k oi (by omega) (by simpa using hoi)

/-- after some operations have come up -/
structure Inv (V : Nat → AV) (ops : Array Oper) (w0 : World) (a0 : Act) (listed : Array Bool) (a : Act) (w : World) : Prop where
  size : listed.size = ops.size
  ext : Ext w0 w
  tmps : a.tmps.size = a0.tmps.size
  defers : a.defers = a0.defers
  vals : ∀ j o, ops[j]? = some o → listed.getD j true = true → ∃ v, V j w v ∧ ∀ d, o.dst = some d → a.tmps.getD d undef = v
  old : ∀ t, (∀ j o, ops[j]? = some o → listed.getD j true = true → o.dst ≠ some t) → a.tmps.getD t undef = a0.tmps.getD t undef
  back : ∀ j o, ops[j]? = some o → listed.getD j true = true → ∀ e ∈ o.after, Region.binds .any e = true → listed.getD e.on false = true

theorem growB_spec {ops : Array Oper} {size : Nat} (h : growB ops size = true) {j : Nat} {o : Oper} (ho : ops[j]? = some o) : growOne ops ops.size size j o = true := by
  have hj : j < ops.size := by
    rcases Nat.lt_or_ge j ops.size with h' | h'
    · exact h'
    · simp [Array.getElem?_eq_none h'] at ho
  have := List.all_eq_true.1 h j (by simpa using hj)
  simpa [ho] using this

theorem lt_of_get {ops : Array Oper} {j : Nat} {o : Oper} (ho : ops[j]? = some o) : j < ops.size := by
  rcases Nat.lt_or_ge j ops.size with h' | h'
  · exact h'
  · simp [Array.getElem?_eq_none h'] at ho

theorem one_back {ops : Array Oper} {n size j : Nat} {o : Oper} (h : growOne ops n size j o = true) {e : Edge} (he : e ∈ o.after) (hb : Region.binds .any e = true) : e.on < j := by
  simp only [growOne, Bool.and_eq_true] at h
  have := Array.all_eq_true'.1 h.1.1 e he
  simpa [hb] using this

theorem one_dst {ops : Array Oper} {size j : Nat} {o : Oper} (h : growOne ops ops.size size j o = true) {d : Tmp} (hd : o.dst = some d) :
    d < size ∧ ∀ i oi, ops[i]? = some oi → i ≠ j → oi.dst ≠ some d := by
  simp only [growOne, Bool.and_eq_true, hd, decide_eq_true_eq] at h
  refine ⟨h.1.2.1, fun i oi hi hne hdi => ?_⟩
  have := List.all_eq_true.1 h.1.2.2 i (by simpa using lt_of_get hi)
  simp [hi, hdi, hne] at this

theorem one_look {ops : Array Oper} {size j : Nat} {o : Oper} (h : growOne ops ops.size size j o = true) {t : Tmp} (ht : t ∈ o.looksAt ops) {i : Nat} {oi : Oper} (hi : ops[i]? = some oi) (hd : oi.dst = some t) :
    (i < j ∧ ∃ e ∈ o.after, Region.binds .any e = true ∧ e.on = i) ∨ (j < i ∧ ∃ e ∈ oi.after, Region.binds .any e = true ∧ e.on = j) := by
  simp only [growOne, Bool.and_eq_true] at h
  have h1 := List.all_eq_true.1 h.2 t ht
  have h2 := List.all_eq_true.1 h1 i (by simpa using lt_of_get hi)
  simp only [hi, Option.bind_some, hd, bne_self_eq_false, Bool.false_or, Option.map_some, Option.getD_some, Bool.or_eq_true, Bool.and_eq_true, decide_eq_true_eq] at h2
  rcases h2 with ⟨h3, h4⟩ | ⟨h3, h4⟩
  · obtain ⟨e, he, h5⟩ := Array.any_eq_true'.1 h4
    exact Or.inl ⟨h3, e, he, by simpa using h5⟩
  · obtain ⟨e, he, h5⟩ := Array.any_eq_true'.1 h4
    exact Or.inr ⟨h3, e, he, by simpa using h5⟩

theorem put_getD_same (a : Act) (d : Tmp) (v : Value) (h : d < a.tmps.size) : (a.put (some d) v).tmps.getD d undef = v := by
  simp [Act.put, Array.getD_eq_getD_getElem?, h]
theorem put_getD_ne (a : Act) (d : Option Tmp) (v : Value) (t : Tmp) (h : d ≠ some t) : (a.put d v).tmps.getD t undef = a.tmps.getD t undef := by
  cases d with
  | none => rfl
  | some d =>
    have hne : d ≠ t := fun e => h (by rw [e])
    simp [Act.put, Array.getD_eq_getD_getElem?, hne]
theorem put_size (a : Act) (d : Option Tmp) (v : Value) : (a.put d v).tmps.size = a.tmps.size := by cases d <;> simp [Act.put]
theorem put_defers (a : Act) (d : Option Tmp) (v : Value) : (a.put d v).defers = a.defers := by cases d <;> simp [Act.put]

theorem getD_set_iff {l : Array Bool} {i j : Nat} (d : Bool) (hi : i < l.size) : (l.setIfInBounds i true).getD j d = true ↔ (j = i ∨ l.getD j d = true) := by
  by_cases h : j = i
  · subst h; simp [Array.getD_eq_getD_getElem?, hi]
  · have h' : i ≠ j := fun e => h e.symm
    simp [Array.getD_eq_getD_getElem?, h', h]

theorem Inv.step {V : Nat → AV} (hV : ∀ i, Up (V i)) (hB : growB ops a0.tmps.size = true) {listed : Array Bool} {a : Act} {w w' : World} (I : Inv V ops w0 a0 listed a w) {i : Nat} {o : Oper} (ho : ops[i]? = some o)
    (hu : listed.getD i true = false) (he : ∀ e ∈ o.after, Region.binds .any e = true → listed.getD e.on false = true) {v : Value} (hw : Ext w w') (hv : V i w' v) :
    Inv V ops w0 a0 (listed.setIfInBounds i true) (a.put o.dst v) w' := by
  have hi : i < listed.size := by rw [I.size]; exact lt_of_get ho
  have hS := growB_spec hB ho
  refine ⟨by simp [I.size], I.ext.trans hw, by rw [put_size, I.tmps], by rw [put_defers, I.defers], ?_, ?_, ?_⟩
  · intro j oj hoj hl
    by_cases hji : j = i
    · subst hji
      obtain rfl : o = oj := by rw [ho] at hoj; exact Option.some.inj hoj
      refine ⟨v, hv, fun d hd => ?_⟩
      rw [hd]
      exact put_getD_same _ _ _ (by rw [I.tmps]; exact (one_dst hS hd).1)
    · have hl' : listed.getD j true = true := by
        rcases (getD_set_iff true hi).1 hl with h | h
        · exact absurd h hji
        · exact h
      obtain ⟨u, h1, h2⟩ := I.vals j oj hoj hl'
      refine ⟨u, hV j _ _ _ hw h1, fun d hd => ?_⟩
      rw [put_getD_ne _ _ _ _ (fun hd' => (one_dst hS hd').2 j oj hoj hji hd)]
      exact h2 d hd
  · intro t ht
    have h1 : o.dst ≠ some t := ht i o ho ((getD_set_iff true hi).2 (Or.inl rfl))
    rw [put_getD_ne _ _ _ _ h1]
    exact I.old t fun j oj hoj hl => ht j oj hoj ((getD_set_iff true hi).2 (Or.inr hl))
  · intro j oj hoj hl e hej hb
    rcases (getD_set_iff true hi).1 hl with h | h
    · subst h
      obtain rfl : o = oj := by rw [ho] at hoj; exact Option.some.inj hoj
      exact (getD_set_iff false hi).2 (Or.inr (he e hej hb))
    · exact (getD_set_iff false hi).2 (Or.inr (I.back j oj hoj h e hej hb))

theorem Inv.slots {V : Nat → AV} {l : List Oper} (hB : growB l.toArray a0.tmps.size = true) {listed : Array Bool} {a : Act} {w : World} (I : Inv V l.toArray w0 a0 listed a w) {i : Nat} {o : Oper} (ho : l[i]? = some o)
    (hu : listed.getD i true = false) (he : ∀ e ∈ o.after, Region.binds .any e = true → listed.getD e.on false = true) :
    Slots (upto i l V []) a0 a w (o.looksAt l.toArray) := by
  have ho' : l.toArray[i]? = some o := by simpa using ho
  have hS := growB_spec hB ho'
  have hl : i ≤ l.length := by have := lt_of_get ho'; simp at this; omega
  refine Slots.of fun t ht => ?_
  unfold Slot
  rcases look_ext t l V [] i hl with ⟨k, ok, h1, h2, h3, h4⟩ | ⟨h1, h2⟩
  · rw [h4]
    have hk : l.toArray[k]? = some ok := by simpa using h2
    rcases one_look hS ht hk h3 with ⟨_, e, he1, he2, he3⟩ | ⟨h5, _⟩
    · have hlk : listed.getD k false = true := by rw [← he3]; exact he e he1 he2
      have hlk' : listed.getD k true = true := by
        have hks : k < listed.size := by rw [I.size]; exact lt_of_get hk
        simpa [Array.getD_eq_getD_getElem?, hks] using hlk
      obtain ⟨v, h6, h7⟩ := I.vals k ok hk hlk'
      rw [h7 t h3]
      exact h6
    · omega
  · rw [h2]
    show a.tmps.getD t undef = _
    refine I.old t fun k ok hk hlk hd => ?_
    rcases one_look hS ht hk hd with ⟨h5, _⟩ | ⟨_, e, he1, he2, he3⟩
    · exact h1 k ok h5 (by simpa using hk) hd
    · have := I.back k ok hk hlk e he1 he2
      rw [he3] at this
      have hs : i < listed.size := by rw [I.size]; exact lt_of_get ho'
      simp [Array.getD_eq_getD_getElem?, hs] at this hu
      rw [this] at hu
      cases hu

/-- how many have not come up -/
def left (n : Nat) (listed : Array Bool) : Nat := ((List.range n).filter fun i => !listed.getD i true).length

theorem left_set (n : Nat) (listed : Array Bool) (i : Nat) (hn : i < n) (hs : listed.size = n) (hu : listed.getD i true = false) : left n (listed.setIfInBounds i true) < left n listed := by
  unfold left
  have hi : i < listed.size := by omega
  have hsub : ∀ j, (!(listed.setIfInBounds i true).getD j true) = ((!listed.getD j true) && decide (j ≠ i)) := by
    intro j
    by_cases h : j = i
    · subst h
      have := (getD_set_iff (j := j) true hi).2 (Or.inl rfl)
      rw [this]; simp
    · cases hl : listed.getD j true with
      | true =>
        have := (getD_set_iff (j := j) true hi).2 (Or.inr hl)
        rw [this]; simp
      | false =>
        have : (listed.setIfInBounds i true).getD j true = false := by
          cases h2 : (listed.setIfInBounds i true).getD j true with
          | false => rfl
          | true =>
            rcases (getD_set_iff true hi).1 h2 with h3 | h3
            · exact absurd h3 h
            · rw [hl] at h3; cases h3
        rw [this]; simp [h]
  have e : (List.range n).filter (fun j => !(listed.setIfInBounds i true).getD j true) = ((List.range n).filter fun j => !listed.getD j true).filter fun j => decide (j ≠ i) := by
    rw [List.filter_filter]
    congr 1
    funext j
    rw [hsub j, Bool.and_comm]
  rw [e]
  refine List.length_filter_lt_length_iff_exists.2 ⟨i, ?_, by simp⟩
  rw [List.mem_filter]
  exact ⟨by simpa using hn, by rw [hu]; rfl⟩

theorem left_zero {n : Nat} {listed : Array Bool} (h : left n listed = 0) {j : Nat} (hj : j < n) : listed.getD j true = true := by
  unfold left at h
  have h1 := List.length_eq_zero_iff.1 h
  cases hl : listed.getD j true with
  | true => rfl
  | false =>
    have : j ∈ (List.range n).filter fun i => !listed.getD i true := by
      rw [List.mem_filter]; exact ⟨by simpa using hj, by rw [hl]; rfl⟩
    rw [h1] at this
    cases this

theorem mem_ready' {listed : Array Bool} {i : Nat} : i ∈ Region.ready .any ops listed ↔ i < ops.size ∧ listed.getD i true = false ∧ ∃ o, ops[i]? = some o ∧ ∀ e ∈ o.after, Region.binds .any e = true → listed.getD e.on false = true := by
  unfold Region.ready
  rw [List.mem_filter]
  simp only [List.mem_range, Bool.and_eq_true, Bool.not_eq_true']
  refine and_congr_right fun hi => and_congr_right fun _ => ?_
  have ho : ops[i]? = some ops[i] := by simp [hi]
  rw [ho]
  simp only [Option.map_some, Option.getD_some, Option.some.injEq, exists_eq_left']
  rw [Array.all_eq_true']
  refine forall_congr' fun e => forall_congr' fun _ => ?_
  cases Region.binds .any e <;> simp

/-- nothing can come up any more: all have come up -/
theorem all_listed (hB : growB ops a0.tmps.size = true) {listed : Array Bool} (hs : listed.size = ops.size) (h : Region.ready .any ops listed = []) : ∀ j, j < ops.size → listed.getD j true = true := by
  intro j
  induction j using Nat.strongRecOn with
  | _ j ih =>
    intro hj
    cases hl : listed.getD j true with
    | true => rfl
    | false =>
      exfalso
      have : j ∈ Region.ready .any ops listed := mem_ready'.2 ⟨hj, hl, ops[j], by simp [hj], fun e he hb => by
        have hlt := one_back (growB_spec hB (show ops[j]? = some ops[j] by simp [hj])) he hb
        have := ih e.on hlt (by omega)
        have hes : e.on < listed.size := by omega
        simpa [Array.getD_eq_getD_getElem?, hes] using this⟩
      rw [h] at this
      cases this

def putAll : List (Option Tmp × Value) → Act → Act
  | [], a => a
  | (d, v) :: r, a => putAll r (a.put d v)

theorem act_ext {a b : Act} (hs : a.tmps.size = b.tmps.size) (hd : a.defers = b.defers) (h : ∀ t, a.tmps.getD t undef = b.tmps.getD t undef) : a = b := by
  obtain ⟨at', ad⟩ := a
  obtain ⟨bt, bd⟩ := b
  simp only at hs hd h
  subst hd
  congr 1
  refine Array.ext hs fun i h1 h2 => ?_
  have := h i
  simpa [Array.getD_eq_getD_getElem?, h1, h2] using this

theorem putAll_eq {a : Act} : ∀ (L : List (Option Tmp × Value)) (b : Act), a.tmps.size = b.tmps.size → a.defers = b.defers →
    (∀ d v, (some d, v) ∈ L → d < b.tmps.size ∧ a.tmps.getD d undef = v) → (∀ t, (∀ v, (some t, v) ∉ L) → a.tmps.getD t undef = b.tmps.getD t undef) → putAll L b = a
  | [], b, hs, hd, _, h => (act_ext hs hd fun t => h t (by simp)).symm
  | (d, v) :: r, b, hs, hd, h1, h2 => by
    refine putAll_eq r (b.put d v) (by rw [put_size, hs]) (by rw [put_defers, hd]) (fun d' v' hm => ?_) (fun t ht => ?_)
    · rw [put_size]; exact h1 d' v' (by simp [hm])
    · by_cases hdt : d = some t
      · subst hdt
        obtain ⟨h3, h4⟩ := h1 t v (by simp)
        rw [put_getD_same _ _ _ h3, h4]
      · rw [put_getD_ne _ _ _ _ hdt]
        refine h2 t fun u hu => ?_
        rcases List.mem_cons.1 hu with h3 | h3
        · exact hdt (by cases h3; rfl)
        · exact ht u h3

theorem finAt_all {w : World} {K : Act → Prop} : ∀ (l : List Oper) (V : Nat → AV) (vs : Nat → Value) (fs : Facts) (b : Act) (acc : List (Option Tmp × Value)),
    FinAt w K (upto l.length l V fs).reverse b → (∀ i, i < l.length → V i w (vs i)) →
    (∀ K' : Act → Prop, ∀ b', FinAt w K' fs.reverse b' → K' (putAll acc b')) →
    ∃ L, L = acc ++ (l.mapIdx fun i o => (o.dst, vs i)) ∧ K (putAll L b) := by
  intro l
  induction l with
  | nil =>
    intro V vs fs b acc h _ hk
    exact ⟨acc, by simp, hk K b (by simpa [upto] using h)⟩
  | cons o rest ih =>
    intro V vs fs b acc h hv hk
    obtain ⟨L, hL, hK⟩ := ih (fun k => V (k + 1)) (fun k => vs (k + 1)) ((o.dst, V 0) :: fs) b (acc ++ [(o.dst, vs 0)]) (by simpa [upto] using h) (fun i hi => hv (i + 1) (by simpa using hi)) (by
      intro K' b' h'
      have app : ∀ (F : Facts) (b' : Act), FinAt w K' (F ++ [(o.dst, V 0)]) b' → FinAt w (fun a => ∀ v, V 0 w v → K' (a.put o.dst v)) F b' := by
        intro F
        induction F with
        | nil => intro b' h; exact h
        | cons x F ihF => intro b' h v hv; exact ihF _ (h v hv)
      have h2 := hk _ b' (app fs.reverse b' (by simpa using h')) (vs 0) (hv 0 (by simp))
      have papp : ∀ (A : List (Option Tmp × Value)) (x : Option Tmp × Value) (b : Act), putAll (A ++ [x]) b = (putAll A b).put x.1 x.2 := by
        intro A x
        induction A with
        | nil => intro b; rfl
        | cons y A ihA => intro b; exact ihA _
      rw [papp]; exact h2)
    refine ⟨L, ?_, hK⟩
    rw [hL, List.mapIdx_cons]
    simp

/-- **One walk in the order of the text serves every order.** -/
theorem wp_region_grow {id : Nat} {Q : Exit → Act → World → Prop} {l : List Oper} (hm : P.follows .mixedOrders = true) (hB : growB l.toArray a0.tmps.size = true)
    (h : wpGrow P l.toArray w0 a0 (fun fs => ∀ w, Ext w0 w → FinAt w (fun a => Q .normal a w) fs.reverse a0) l []) : (Code.region id l.toArray true).wp P Q a0 w0 := by
  refine wp_region_any hm ?_
  obtain ⟨V, hV, hF⟩ := table l [] h
  -- what lies beyond the table is of no account
  have hV' : ∃ V' : Nat → AV, (∀ i, i < l.length → V' i = V i) ∧ ∀ i, Up (V' i) := by
    refine ⟨fun i => if i < l.length then V i else Is undef, fun i hi => if_pos hi, fun i => ?_⟩
    simp only []
    split
    · rename_i hi
      exact (hV i l[i] (by simp [hi])).1
    · exact Up.is _
  obtain ⟨V', hVV, hup⟩ := hV'
  have main : ∀ (fuel : Nat) (listed : Array Bool) (a : Act) (w : World), left l.toArray.size listed ≤ fuel → Inv V' l.toArray w0 a0 listed a w → wpAny P .any l.toArray Q fuel listed a w := by
    have last : ∀ (listed : Array Bool) (a : Act) (w : World), Inv V' l.toArray w0 a0 listed a w → (∀ j, j < l.toArray.size → listed.getD j true = true) → Q .normal a w := by
      intro listed a w I hall
      have hval : ∀ i, i < l.length → ∃ v, V i w v ∧ ∀ d, l[i]?.bind (·.dst) = some d → a.tmps.getD d undef = v := by
        intro i hi
        obtain ⟨v, h1, h2⟩ := I.vals i l[i] (by simp [hi]) (hall i (by simpa using hi))
        exact ⟨v, by rw [← hVV i hi]; exact h1, fun d hd => h2 d (by simpa [hi] using hd)⟩
      have hch : ∃ vs : Nat → Value, ∀ i, i < l.length → V i w (vs i) ∧ ∀ d, l[i]?.bind (·.dst) = some d → a.tmps.getD d undef = vs i := by
        refine ⟨fun i => if hi : i < l.length then Classical.choose (hval i hi) else undef, fun i hi => ?_⟩
        simp only [hi, dite_true]
        exact Classical.choose_spec (hval i hi)
      obtain ⟨vs, hvs⟩ := hch
      obtain ⟨L, hL, hK⟩ := finAt_all (w := w) (K := fun a => Q .normal a w) l V vs [] a0 [] (hF w I.ext) (fun i hi => (hvs i hi).1) (fun K' b' h' => by simpa [FinAt, putAll] using h')
      have : putAll L a0 = a := by
        refine putAll_eq L a0 I.tmps I.defers (fun d v hm => ?_) (fun t ht => ?_)
        · rw [hL, List.nil_append, List.mem_mapIdx] at hm
          obtain ⟨i, hi, he⟩ := hm
          simp only [Prod.mk.injEq] at he
          obtain ⟨he1, he2⟩ := he
          have hoi : l.toArray[i]? = some l[i] := by simp [hi]
          exact ⟨(one_dst (growB_spec hB hoi) he1).1, by rw [← he2]; exact (hvs i hi).2 d (by simpa [hi] using he1)⟩
        · refine I.old t fun j oj hoj _ hd => ?_
          have hj := lt_of_get hoj
          have hj' : j < l.length := by simpa using hj
          refine ht (vs j) ?_
          rw [hL, List.nil_append, List.mem_mapIdx]
          refine ⟨j, hj', ?_⟩
          have : l[j] = oj := by simpa [hj'] using hoj
          rw [this, hd]
      rw [this] at hK
      exact hK
    intro fuel
    induction fuel with
    | zero =>
      intro listed a w hf I
      have hall : ∀ j, j < l.toArray.size → listed.getD j true = true := fun j hj => left_zero (by omega) hj
      refine ⟨?_, last listed a w I hall⟩
      cases hr : Region.ready .any l.toArray listed with
      | nil => rfl
      | cons x xs =>
        have hx : x ∈ Region.ready .any l.toArray listed := by rw [hr]; simp
        obtain ⟨h1, h2, _⟩ := mem_ready'.1 hx
        rw [hall x h1] at h2
        cases h2
    | succ fuel ih =>
      intro listed a w hf I
      refine ⟨fun hr => last listed a w I (all_listed hB I.size hr), fun i hi => ?_⟩
      obtain ⟨h1, h2, o, ho, he⟩ := mem_ready'.1 hi
      have hol : l[i]? = some o := by simpa using ho
      have hil : i < l.length := by simpa using h1
      have step : ∀ v w', Ext w w' → V i w' v → wpAny P .any l.toArray Q fuel (listed.setIfInBounds i true) (a.put o.dst v) w' := fun v w' hw hv =>
        ih _ _ _ (by have := left_set l.toArray.size listed i h1 I.size h2; omega) (I.step hup hB ho h2 he hw (by rw [hVV i hil]; exact hv))
      have hsl := I.slots hB hol h2 he
      have hcong : ∀ (j : Nat) (l' : List Oper) (W W' : Nat → AV) (fs : Facts), (∀ k, k < j → W k = W' k) → upto j l' W fs = upto j l' W' fs := by
        intro j
        induction j with
        | zero => intro l' W W' fs _; cases l' <;> rfl
        | succ j ihj =>
          intro l' W W' fs hk
          cases l' with
          | nil => rfl
          | cons x l' =>
            simp only [upto]
            rw [hk 0 (by omega)]
            exact ihj l' _ _ _ fun k hk' => hk (k + 1) (by omega)
      rw [hcong i l V' V [] (fun k hk => hVV k (by omega))] at hsl
      have hg := (hV i o hol).2 a w I.ext I.tmps hsl
      unfold wpOp
      rw [ho]
      show if Region.wanted o (yielded l.toArray a.tmps) = true then _ else _
      unfold growAt at hg
      rw [guardOk_eq]
      split
      · rename_i hwant
        rw [if_pos hwant] at hg
        refine Or.inl ?_
        unfold Oper.wp
        generalize (execOp a.eval o).run P w = r at hg ⊢
        cases r with
        | ok n w' =>
          cases n <;> simp only [growUpon] at hg <;> simp only [Oper.upon]
          case value u => exact step u w' hg.1 hg.2
          case skip => exact step undef w' hg.1 hg.2
          case enter f args =>
            exact hg.2.mono fun e w'' ⟨v, he', hx, hv⟩ => by subst he'; exact step v w'' (hg.1.trans hx) hv
        | halt x w' => simp only [growUpon] at hg
      · rename_i hwant
        rw [if_neg hwant] at hg
        exact step undef w (Ext.refl _) hg
  have hn : ∀ j, (Array.replicate l.toArray.size false).getD j true = true → ¬ j < l.toArray.size := by
    intro j hj hlt
    have hlt' : j < l.length := by simpa using hlt
    simp [Array.getD_eq_getD_getElem?, hlt'] at hj
  refine main _ _ _ _ ?_ ⟨by simp, (Ext.refl w0).drew, rfl, rfl, fun j o ho hl => absurd (lt_of_get ho) (hn j hl), fun _ _ => rfl, fun j o ho hl => absurd (lt_of_get ho) (hn j hl)⟩
  unfold left
  exact Nat.le_trans (List.length_filter_le _ _) (by simp)

/-- one operation whose value is known -/
theorem grow_is {Fin : Facts → Prop} {o : Oper} {rest : List Oper} {fs : Facts} {c : Value}
    (h : ∀ a w, Ext w0 w → a.tmps.size = a0.tmps.size → Slots fs a0 a w (o.looksAt ops) → growAt P ops o a w (Is c))
    (k : wpGrow P ops w0 a0 Fin rest ((o.dst, Is c) :: fs)) : wpGrow P ops w0 a0 Fin (o :: rest) fs := ⟨Is c, ⟨Up.is c, h⟩, k⟩

/-- one operation of whose value something is known -/
theorem grow_in {Fin : Facts → Prop} {o : Oper} {rest : List Oper} {fs : Facts} (V : AV) (hV : Up V)
    (h : ∀ a w, Ext w0 w → a.tmps.size = a0.tmps.size → Slots fs a0 a w (o.looksAt ops) → growAt P ops o a w V)
    (k : wpGrow P ops w0 a0 Fin rest ((o.dst, V) :: fs)) : wpGrow P ops w0 a0 Fin (o :: rest) fs := ⟨V, ⟨hV, h⟩, k⟩

theorem grow_value {w w' : World} {V : AV} {u : Value} (h : Ext w w') (hv : V w' u) : growUpon P w V (.ok (.value u) w') := ⟨h, hv⟩
theorem grow_same {w : World} {u : Value} : growUpon P w (Is u) (.ok (.value u) w) := ⟨Ext.refl _, rfl⟩
theorem grow_skip {w : World} : growUpon P w (Is undef) (.ok .skip w) := ⟨Ext.refl _, rfl⟩
theorem grow_call {w w' : World} {V : AV} {f : FuncId} {args : Array Value} (h : Ext w w') (hc : Calls P f args w' fun e w'' => ∃ v, e = .returned v ∧ Ext w' w'' ∧ V w'' v) : growUpon P w V (.ok (.enter f args) w') := ⟨h, hc⟩
/-- a contract that changes nothing, or makes new memory alone -/
theorem calls_same {w : World} {f : FuncId} {args : Array Value} {v : Value} (h : Calls P f args w fun e w' => e = .returned v ∧ w = w') : Calls P f args w fun e w'' => ∃ u, e = .returned u ∧ Ext w w'' ∧ Is v w'' u :=
  h.mono fun _ _ ⟨he, hw⟩ => ⟨v, he, by rw [← hw]; exact Ext.refl _, rfl⟩
theorem calls_ext {w : World} {f : FuncId} {args : Array Value} {v : Value} (h : Calls P f args w fun e w' => e = .returned v ∧ Below w.heap.size w w') : Calls P f args w fun e w'' => ∃ u, e = .returned u ∧ Ext w w'' ∧ Is v w'' u :=
  h.mono fun _ _ ⟨he, hw⟩ => ⟨v, he, hw, rfl⟩

theorem grow_call_same {w : World} {f : FuncId} {args : Array Value} {v : Value} (h : Calls P f args w fun e w' => e = .returned v ∧ w = w') : growUpon P w (Is v) (.ok (.enter f args) w) := grow_call (Ext.refl _) (calls_same h)
theorem grow_call_ext {w : World} {f : FuncId} {args : Array Value} {v : Value} (h : Calls P f args w fun e w' => e = .returned v ∧ Below w.heap.size w w') : growUpon P w (Is v) (.ok (.enter f args) w) := grow_call (Ext.refl _) (calls_ext h)

/-- a new row of cells that nobody else writes -/
def Row (w0 : World) (C : Array Value) (T : TypeId) (n cap : Nat) : AV := fun w v =>
  ∃ b, v = .slice (some ⟨b, 0, none⟩) n cap ∧ w0.heap.size ≤ b ∧ w.heap[b]? = some (.cells C T (0, 0))
theorem Up.row (w0 : World) (C : Array Value) (T : TypeId) (n cap : Nat) : Up (Row w0 C T n cap) := by
  intro w w' v hx ⟨b, h1, h2, h3⟩
  have hb : b < w.heap.size := by
    rcases Nat.lt_or_ge b w.heap.size with h | h
    · exact h
    · simp [Array.getElem?_eq_none h] at h3
  exact ⟨b, h1, h2, by rw [hx.block b hb]; exact h3⟩
theorem row_new {w0 w : World} {C : Array Value} {T : TypeId} {n cap : Nat} (h : Ext w0 w) : growUpon P w (Row w0 C T n cap) (.ok (.value (.slice (some ⟨w.heap.size, 0, none⟩) n cap)) (w.alloc (.cells C T))) :=
  ⟨(Ext.refl _).alloc (Nat.le_refl _) _, w.heap.size, rfl, h.size, by
    show (w.heap.push _)[w.heap.size]? = _
    simp⟩
theorem row_spec {w0 w : World} {C : Array Value} {T : TypeId} {n cap : Nat} {v : Value} (h : Row w0 C T n cap w v) : ∃ b, v = .slice (some ⟨b, 0, none⟩) n cap ∧ w0.heap.size ≤ b ∧ w.heap[b]? = some (.cells C T (0, 0)) := h
theorem row_cell {w : World} {C : Array Value} {T : TypeId} {b i : Nat} {v : Value} (h : w.heap[b]? = some (.cells C T (0, 0))) (hv : C[i]? = some v) : w.cell? ⟨b, i, none⟩ = some v := by
  simp [World.cell?, h, hv]

/-- the end, slot by slot -/
def FinT (w : World) (K : Array Value → Prop) : Facts → Array Value → Prop
  | [], t => K t
  | (some d, V) :: r, t => ∀ v, V w v → FinT w K r (t.setIfInBounds d v)
  | (none, V) :: r, t => ∀ v, V w v → FinT w K r t

theorem finT_at {w : World} {K : Act → Prop} (ds : List Deferred) : ∀ (L : Facts) (t : Array Value), FinT w (fun t => K ⟨t, ds⟩) L t → FinAt w K L ⟨t, ds⟩
  | [], _, h => h
  | (some _, _) :: r, _, h => fun v hv => finT_at ds r _ (h v hv)
  | (none, _) :: r, _, h => fun v hv => finT_at ds r _ (h v hv)

theorem grow_fin {Q : Exit → Act → World → Prop} {t : Array Value} {ds : List Deferred} {fs : Facts}
    (h : ∀ w, Ext w0 w → FinT w (fun t => Q .normal ⟨t, ds⟩ w) fs.reverse t) :
    wpGrow P ops w0 ⟨t, ds⟩ (fun fs => ∀ w, Ext w0 w → FinAt w (fun a => Q .normal a w) fs.reverse ⟨t, ds⟩) [] fs := fun w hw => finT_at ds _ _ (h w hw)

theorem grow_end {Fin : Facts → Prop} {fs : Facts} (h : Fin fs) : wpGrow P ops w0 a0 Fin [] fs := h

end
end Go.Proofs.YtimegcnpembhkaaDoor
