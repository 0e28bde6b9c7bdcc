/- stelelaw28.all, the order of pieces and strips; the law BootstrapRuns returns true. (Layer 28) -/
import Derived.Test.YtjmglbppmolipaaGreatDoorBootL2
import Derived.Test.YtjmglbppmolipaaGreatDoorGrow
import Derived.Deep.DeepCutAuto
-- a drawn region under an invariant (as XGrowI)
namespace Go.Proofs.YtjmglbppmolipaaGreatDoor
open Go.RowKit

def notDst (l : List Oper) (t : Nat) : Bool := l.all fun o => o.dst != some t
def knownB (l : List Oper) (kn : List (Nat × Nat × Value)) : Bool := kn.all fun p => match l[p.1]? with | some o => o.dst == some p.2.1 | none => false
def coverB (l : List Oper) (kn : List (Nat × Nat × Value)) (sp : List Nat) : Bool := l.all fun o => match o.dst with | none => true | some d => (kn.any fun p => p.2.1 == d) || sp.contains d
def spB (l : List Oper) (sp : List Nat) : Bool := sp.all fun d => l.any fun o => o.dst == some d

def StepJ (P : Program) (l : List Oper) (Q : Exit → Act → World → Prop) (a0 : Act) (kn : List (Nat × Nat × Value)) (J : (Nat → Bool) → (Nat → Value) → World → Prop) (i : Nat) (o : Oper) : Prop :=
  ∀ (L : Nat → Bool) (a : Act) (w : World) (K : Act → World → Prop), a.tmps.size = a0.tmps.size → L i = false → (∀ e ∈ o.after, Region.binds .any e = true → L e.on = true) →
    (∀ p ∈ kn, L p.1 = true → a.tmps.getD p.2.1 undef = p.2.2) → (∀ t, notDst l t = true → a.tmps.getD t undef = a0.tmps.getD t undef) → J L (fun t => a.tmps.getD t undef) w →
    (∀ v w', (∀ p ∈ kn, p.1 = i → v = p.2.2) → J (fun j => j == i || L j) (fun t => if o.dst = some t then v else a.tmps.getD t undef) w' → K (a.put o.dst v) w') →
    if guardOk l.toArray o a = true then Oper.wp P o a w K Q else K (a.put o.dst undef) w
def StepsJ (P : Program) (l : List Oper) (Q : Exit → Act → World → Prop) (a0 : Act) (kn : List (Nat × Nat × Value)) (J : (Nat → Bool) → (Nat → Value) → World → Prop) : List Oper → Nat → Prop
  | [], _ => True
  | o :: r, i => StepJ P l Q a0 kn J i o ∧ StepsJ P l Q a0 kn J r (i + 1)

section
variable {P : Program} {w0 : World} {a0 : Act} {l : List Oper} {Q : Exit → Act → World → Prop} {kn : List (Nat × Nat × Value)} {J : (Nat → Bool) → (Nat → Value) → World → Prop}

theorem StepsJ.at {r : List Oper} {k : Nat} (h : StepsJ P l Q a0 kn J r k) : ∀ i o, r[i]? = some o → StepJ P l Q a0 kn J (k + i) o := by
  induction r generalizing k with
  | nil => intro i o hi; simp at hi
  | cons x r ih =>
    intro i o hi
    cases i with
    | zero => simp at hi; subst hi; exact h.1
    | succ i =>
      have := ih h.2 i o (by simpa using hi)
      rwa [show k + 1 + i = k + (i + 1) by omega] at this

structure InvJ (l : List Oper) (a0 : Act) (kn : List (Nat × Nat × Value)) (J : (Nat → Bool) → (Nat → Value) → World → Prop) (listed : Array Bool) (a : Act) (w : World) : Prop where
  size : listed.size = l.toArray.size
  tmps : a.tmps.size = a0.tmps.size
  defers : a.defers = a0.defers
  kn : ∀ p ∈ kn, listed.getD p.1 true = true → a.tmps.getD p.2.1 undef = p.2.2
  old : ∀ t, notDst l t = true → a.tmps.getD t undef = a0.tmps.getD t undef
  j : J (fun j => listed.getD j true) (fun t => a.tmps.getD t undef) w

theorem known_spec (hk : knownB l kn = true) {p : Nat × Nat × Value} (hp : p ∈ kn) : ∃ o, l[p.1]? = some o ∧ o.dst = some p.2.1 := by
  have := List.all_eq_true.1 hk p hp
  split at this
  · rename_i o ho
    exact ⟨o, ho, by simpa using this⟩
  · cases this
theorem InvJ.step (hB : growB l.toArray a0.tmps.size = true) (hk : knownB l kn = true) {listed : Array Bool} {a : Act} {w w' : World} (I : InvJ l a0 kn J listed a w) {i : Nat} {o : Oper} (ho : l[i]? = some o) {v : Value}
    (hv : ∀ p ∈ kn, p.1 = i → v = p.2.2) (hj : J (fun j => j == i || listed.getD j true) (fun t => if o.dst = some t then v else a.tmps.getD t undef) w') :
    InvJ l a0 kn J (listed.setIfInBounds i true) (a.put o.dst v) w' := by
  have hol : l.toArray[i]? = some o := by simpa using ho
  have hi : i < listed.size := by rw [I.size]; exact lt_of_get hol
  have hS := growB_spec hB hol
  refine ⟨by simp [I.size], by rw [put_size, I.tmps], by rw [put_defers, I.defers], ?_, ?_, ?_⟩
  · intro p hp hl
    obtain ⟨op, hop, hd⟩ := known_spec hk hp
    by_cases hpi : p.1 = i
    · have : op = o := by rw [hpi, ho] at hop; exact (Option.some.inj hop).symm
      subst this
      rw [hd, put_getD_same _ _ _ (by rw [I.tmps]; exact (one_dst hS hd).1)]
      exact hv p hp hpi
    · have hl' : listed.getD p.1 true = true := by
        rcases (getD_set_iff true hi).1 hl with h | h
        · exact absurd h hpi
        · exact h
      rw [put_getD_ne _ _ _ _ (fun hd' => (one_dst hS hd').2 p.1 op (by simpa using hop) hpi hd)]
      exact I.kn p hp hl'
  · intro t ht
    have := List.all_eq_true.1 ht o (List.mem_of_getElem? ho)
    rw [put_getD_ne _ _ _ _ (by simpa using this)]
    exact I.old t ht
  · have e1 : (fun j => (listed.setIfInBounds i true).getD j true) = fun j => j == i || listed.getD j true := by
      funext j
      have := getD_set_iff (l := listed) (i := i) (j := j) true hi
      rw [Bool.eq_iff_iff, this]
      simp
    have e2 : (fun t => (a.put o.dst v).tmps.getD t undef) = fun t => if o.dst = some t then v else a.tmps.getD t undef := by
      funext t
      split
      · rename_i hd
        rw [hd, put_getD_same _ _ _ (by rw [I.tmps]; exact (one_dst hS hd).1)]
      · rename_i hd
        rw [put_getD_ne _ _ _ _ hd]
    rw [e1, e2]
    exact hj

/-- **A drawn region under an invariant.** -/
theorem wp_region_inv {id : Nat} (kn : List (Nat × Nat × Value)) (sp : List Nat) (J : (Nat → Bool) → (Nat → Value) → World → Prop) (hm : P.follows .mixedOrders = true) (hB : growB l.toArray a0.tmps.size = true)
    (hk : knownB l kn = true) (hc : coverB l kn sp = true) (hsp : spB l sp = true)
    (h0 : J (fun j => decide (l.length ≤ j)) (fun t => a0.tmps.getD t undef) w0.drew) (hs : StepsJ P l Q a0 kn J l 0)
    (hd : ∀ (u : Nat → Value) (w : World), J (fun _ => true) u w → Q .normal (putAll ((kn.map fun p => (some p.2.1, p.2.2)) ++ sp.map fun d => (some d, u d)) a0) w) :
    (Code.region id l.toArray true).wp P Q a0 w0 := by
  refine wp_region_any hm ?_
  have last : ∀ (listed : Array Bool) (a : Act) (w : World), InvJ l a0 kn J listed a w → (∀ j, j < l.toArray.size → listed.getD j true = true) → Q .normal a w := by
    intro listed a w I hall
    have hL : (fun j => listed.getD j true) = fun _ => true := by
      funext j
      rcases Nat.lt_or_ge j l.toArray.size with h | h
      · exact hall j h
      · have : listed.size ≤ j := by rw [I.size]; exact h
        simp [Array.getD_eq_getD_getElem?, Array.getElem?_eq_none this]
    have hj := I.j
    rw [hL] at hj
    have := hd _ w hj
    rwa [putAll_eq _ a0 I.tmps I.defers] at this
    · intro d v hm'
      rcases List.mem_append.1 hm' with h | h
      · obtain ⟨p, hp, he⟩ := List.mem_map.1 h
        obtain ⟨he1, he2⟩ := Prod.mk.inj he
        have he1 := Option.some.inj he1
        obtain ⟨op, hop, hdd⟩ := known_spec hk hp
        have hol : l.toArray[p.1]? = some op := by simpa using hop
        subst he1 he2
        exact ⟨(one_dst (growB_spec hB hol) hdd).1, I.kn p hp (hall _ (lt_of_get hol))⟩
      · obtain ⟨d', hd', he⟩ := List.mem_map.1 h
        obtain ⟨he1, he2⟩ := Prod.mk.inj he
        have he1 := Option.some.inj he1
        subst he1 he2
        have := List.all_eq_true.1 hsp d' hd'
        obtain ⟨o, ho, hdo⟩ := List.any_eq_true.1 this
        obtain ⟨i, hi⟩ := List.mem_iff_getElem?.1 ho
        have hol : l.toArray[i]? = some o := by simpa using hi
        exact ⟨(one_dst (growB_spec hB hol) (by simpa using hdo)).1, rfl⟩
    · intro t ht
      refine I.old t (List.all_eq_true.2 fun o ho => ?_)
      have := List.all_eq_true.1 hc o ho
      cases hdo : o.dst with
      | none => rfl
      | some d =>
        rw [hdo] at this
        rw [bne_iff_ne]
        intro e
        have e := Option.some.inj e
        subst e
        rcases Bool.or_eq_true_iff.1 this with h | h
        · obtain ⟨p, hp, he⟩ := List.any_eq_true.1 h
          refine ht p.2.2 (List.mem_append.2 (Or.inl (List.mem_map.2 ⟨p, hp, ?_⟩)))
          rw [beq_iff_eq.1 he]
        · exact ht _ (List.mem_append.2 (Or.inr (List.mem_map.2 ⟨d, by simpa using h, rfl⟩)))
  have main : ∀ (fuel : Nat) (listed : Array Bool) (a : Act) (w : World), left l.toArray.size listed ≤ fuel → InvJ l a0 kn J listed a w → wpAny P .any l.toArray Q fuel listed a w := by
    intro fuel
    induction fuel with
    | zero =>
      intro listed a w hf I
      have hall : ∀ j, j < l.toArray.size → listed.getD j true = true := fun j hj => left_zero (by omega) hj
      refine ⟨?_, last listed a w I hall⟩
      cases hr : Region.ready .any l.toArray listed with
      | nil => rfl
      | cons x xs =>
        have hx : x ∈ Region.ready .any l.toArray listed := by rw [hr]; simp
        obtain ⟨h1, h2, _⟩ := mem_ready'.1 hx
        rw [hall x h1] at h2
        cases h2
    | succ fuel ih =>
      intro listed a w hf I
      refine ⟨fun hr => last listed a w I (all_listed hB I.size hr), fun i hi => ?_⟩
      obtain ⟨h1, h2, o, ho, he⟩ := mem_ready'.1 hi
      have hol : l[i]? = some o := by simpa using ho
      have hst := hs.at i o hol
      rw [Nat.zero_add] at hst
      refine wpOp_step ho fun K' hK => ?_
      rw [guardOk_eq]
      have := hst (fun j => listed.getD j true) a w K' I.tmps h2 (fun e hem hb => by
        have := he e hem hb
        have hes : e.on < listed.size := by
          rcases Nat.lt_or_ge e.on listed.size with h | h
          · exact h
          · simp [Array.getD_eq_getD_getElem?, Array.getElem?_eq_none h] at this
        simpa [Array.getD_eq_getD_getElem?, hes] using this) I.kn I.old I.j (fun v w' hv hj => hK _ _ (ih _ _ _ (by have := left_set l.toArray.size listed i h1 I.size h2; omega) (I.step hB hk hol hv hj)))
      exact this
  have hn : ∀ j, (Array.replicate l.toArray.size false).getD j true = decide (l.length ≤ j) := by
    intro j
    rcases Nat.lt_or_ge j l.length with h | h
    · have : ¬ l.length ≤ j := by omega
      simp [Array.getD_eq_getD_getElem?, h, this]
    · simp [Array.getD_eq_getD_getElem?, h, Nat.not_lt.2 h]
  refine main _ _ _ _ ?_ ⟨by simp, rfl, rfl, fun p hp hl => ?_, fun _ _ => rfl, ?_⟩
  · unfold left
    exact Nat.le_trans (List.length_filter_le _ _) (by simp)
  · obtain ⟨op, hop, _⟩ := known_spec hk hp
    rw [hn] at hl
    have := lt_of_get (show l.toArray[p.1]? = some op by simpa using hop)
    simp at hl this
    omega
  · rw [show (fun j => (Array.replicate l.toArray.size false).getD j true) = fun j => decide (l.length ≤ j) from funext hn]
    exact h0
end
end Go.Proofs.YtjmglbppmolipaaGreatDoor
namespace Go.Proofs.YtjmglbppmolipaaGreatDoor
open Go.RowKit
open Go.Lib hiding intOf
set_option linter.unusedVariables false
set_option linter.unusedSimpArgs false

def idxA (n order i : Nat) : Nat := if order % 2 = 1 then n - 1 - (i + order) % n else (i + order) % n
def outA (rows : List ByteArray) (order i : Nat) : List ByteArray := (List.range i).map fun j => rows.getD (idxA rows.length order j) ByteArray.empty
def allA (rows l : List ByteArray) (order : Nat) : List ByteArray := if order % 3 = 0 then l ++ outA rows order rows.length else outA rows order rows.length ++ l
theorem outA_succ (rows : List ByteArray) (order i : Nat) : outA rows order (i + 1) = outA rows order i ++ [rows.getD (idxA rows.length order i) ByteArray.empty] := by
  unfold outA
  rw [List.range_succ, List.map_append]; rfl
theorem outA_len (rows : List ByteArray) (order i : Nat) : (outA rows order i).length = i := by simp [outA]
theorem idxA_lt {n : Nat} (order i : Nat) (h : 0 < n) : idxA n order i < n := by
  have := Nat.mod_lt (i + order) h
  unfold idxA
  split <;> omega
theorem allA_len (rows l : List ByteArray) (order : Nat) : (allA rows l order).length = rows.length + l.length := by
  unfold allA
  split <;> rw [List.length_append, outA_len] <;> omega
theorem own_weak {w : World} {base base' : Nat} {e : TypeId} {size : Nat} {v : Value} {n : Nat} {xs : List Value} (h : w.ownsRow base e size v n xs) (hb : base' ≤ base) : w.ownsRow base' e size v n xs := by
  refine ⟨h.1, ?_⟩
  rcases h.2 with hn | ⟨g, cap, cur, hv, hb2, hg, rest⟩
  · exact .inl hn
  · exact .inr ⟨g, cap, cur, hv, Nat.le_trans hb hb2, hg, rest⟩
set_option maxRecDepth 100000 in
set_option maxHeartbeats 3200000 in
theorem all_any (A A0 : Option Addr) (n c n0 c0 order : Nat) (rows l : List ByteArray) (w : World) (hn : rows.length = n) (hl0n : l.length = n0) (hl : Lst w A n c (rows.map Value.string)) (hl0 : Lst w A0 n0 c0 (l.map Value.string)) (hA0 : A0 = none → n0 = 0 ∧ c0 = 0) (h100 : n ≤ 100) (h0100 : n0 ≤ 100) (ho : order ≤ 255) :
    Calls Tryz.prog 18 #[.slice A n c, .slice A0 n0 c0, .int .u8 order] w fun e w' => ∃ v, e = .returned v ∧ w'.ownsRow w.heap.size 9 1 v (n + n0) ((allA rows l order).map Value.string) ∧ Ext w w' := by
  obtain ⟨i0, hi, hz0, hz1, hz2⟩ := info_parts strInfoB
  have HL := Lib.hid hl
  have HL0 := Lib.hid hl0
  have HA0 := Lib.hid hA0
  have HN := Lib.hid hn
  have hr := hl.room
  have hm := hl.max
  have hr0 := hl0.room
  have hm0 := hl0.max
  unfold maxLen at hm hm0
  have hall : Hid (allA rows l order = if order % 3 = 0 then l ++ outA rows order n else outA rows order n ++ l) := by
    show _ = _
    unfold allA
    rw [hn]
  clear hl hl0 hA0 hn
  go_enter Tryz.func18, Tryz.ntmps18
  go_wp2_with fail
  go_loopw [7, 8] (fun ov iv wr => ∃ i : Nat, iv = .int .i64 i ∧ i ≤ n ∧ wr.ownsRow w.heap.size 9 1 ov i ((outA rows order i).map Value.string) ∧ Ext w wr) (fun _ iv _ => n - (intOf iv).toNat)
  case atStart => exact ⟨0, rfl, Nat.zero_le _, ⟨rfl, .inl ⟨rfl, rfl⟩⟩, Ext.refl _⟩
  case round =>
    obtain ⟨i, rfl, hin, hown, hx⟩ := hrel
    have HO := Lib.hid hown
    clear hown
    by_cases hlt : i < n
    · obtain ⟨k, hk⟩ : ∃ k, k = (i + order) % n := ⟨_, rfl⟩
      have hkn : k < n := by rw [hk]; exact Nat.mod_lt _ (by omega)
      have hrem : ((i : Int) + (order : Int)).tmod (n : Int) = (k : Int) := by rw [hk]; rfl
      have hn0 : ((n : Int) == 0) = false := by simp; omega
      have hrem' : ((i : Int) + (order : Int)) % (n : Int) = (k : Int) := by rw [hk]; rfl
      obtain ⟨q, off, rfl, hq⟩ := HL.out.at_ (by omega)
      obtain ⟨j, hj⟩ : ∃ j, j = idxA n order i := ⟨_, rfl⟩
      have hjn : j < n := by rw [hj]; exact idxA_lt _ _ (by omega)
      obtain ⟨x, hxx⟩ : ∃ x, x = rows.getD j ByteArray.empty := ⟨_, rfl⟩
      have hcell : wr.cell? ⟨q, off + j, none⟩ = some (.string x) := by
        have h := hx.cell (hq j (by rw [List.length_map, HN.out]; exact hjn))
        rw [List.getElem_map] at h
        rw [hxx, List.getD_eq_getElem?_getD, List.getElem?_eq_getElem (by rw [HN.out]; exact hjn)]
        exact h
      have HSn : Hid (outA rows order (i + 1) = outA rows order i ++ [x]) := by
        show _ = _
        rw [outA_succ, hxx, hj, HN.out]
      have hi100 : i ≤ 100 := by omega
      have h2o : order % 2 = 1 ∨ order % 2 = 0 := by omega
      rcases h2o with h2 | h2
      · have hb2 : ((order : Int).tmod 2 == 1) = true := by
          have : (order : Int).tmod 2 = ((order % 2 : Nat) : Int) := rfl
          rw [this, h2]; rfl
        have hb3 : ((order : Int) % 2 == 1) = true := by
          have : (order : Int) % 2 = ((order % 2 : Nat) : Int) := rfl
          rw [this, h2]; rfl
        have hje : (n : Int) - 1 - (k : Int) = (j : Int) := by
          rw [hj]; unfold idxA; rw [if_pos h2, ← hk]; omega
        have HQ := Lib.hid hq
        clear hk hxx hj h2 hq
        go_wp2_with (at_builtin; refine wpList_append_own _ rfl (.tmp 31) (.tmp 36) _ rfl w.heap.size 9 i0 _ 1 16 Tryz.underlying22 hi hz0 hz1 hz2 rfl (by omega) _ _ _ rfl (HO.out.alloc _) ⟨wr.heap.size, 0, none⟩ 1 1 [.string x] rfl rfl ?d1 ?d2 ?d3 ?d4 ?d5 ?_)
        case d1 =>
          intro j u hu
          match j, hu with
          | 0, hu => simp at hu; subst hu; go_cell
        case d2 =>
          intro u hu
          simp at hu
          subst hu; rfl
        case d3 => unfold maxLen; omega
        case d4 => omega
        case d5 => (have hc5 := hx.size; try simp at hc5); simp; omega
        intro v' w2 hown2 hgr _
        have hx3 := (hx.alloc (.cells #[.string x] 9)).grown hgr (fun k hk => (HO.out.lt k hk).1)
        have HO2 := Lib.hid hown2
        have HG := Lib.hid hgr
        clear hown2 hgr
        go_wp2_with fail
        go_roundw
        case rel => exact ⟨i + 1, by simp, by omega, by rw [HSn.out, strsV_snoc]; exact HO2.out, hx3⟩
        case measure => (show n - ((i : Int) + 1).toNat < n - (i : Int).toNat); omega
      · have hb2 : ((order : Int).tmod 2 == 1) = false := by
          have : (order : Int).tmod 2 = ((order % 2 : Nat) : Int) := rfl
          rw [this, h2]; rfl
        have hb3 : ((order : Int) % 2 == 1) = false := by
          have : (order : Int) % 2 = ((order % 2 : Nat) : Int) := rfl
          rw [this, h2]; rfl
        obtain rfl : k = j := by
          rw [hj]; unfold idxA; rw [if_neg (by omega), ← hk]
        have HQ := Lib.hid hq
        clear hk hxx hj h2 hq
        go_wp2_with (at_builtin; refine wpList_append_own _ rfl (.tmp 31) (.tmp 36) _ rfl w.heap.size 9 i0 _ 1 16 Tryz.underlying22 hi hz0 hz1 hz2 rfl (by omega) _ _ _ rfl (HO.out.alloc _) ⟨wr.heap.size, 0, none⟩ 1 1 [.string x] rfl rfl ?e1 ?e2 ?e3 ?e4 ?e5 ?_)
        case e1 =>
          intro j u hu
          match j, hu with
          | 0, hu => simp at hu; subst hu; go_cell
        case e2 =>
          intro u hu
          simp at hu
          subst hu; rfl
        case e3 => unfold maxLen; omega
        case e4 => omega
        case e5 => (have hc5 := hx.size; try simp at hc5); simp; omega
        intro v' w2 hown2 hgr _
        have hx3 := (hx.alloc (.cells #[.string x] 9)).grown hgr (fun k hk => (HO.out.lt k hk).1)
        have HO2 := Lib.hid hown2
        have HG := Lib.hid hgr
        clear hown2 hgr
        go_wp2_with fail
        go_roundw
        case rel => exact ⟨i + 1, by simp, by omega, by rw [HSn.out, strsV_snoc]; exact HO2.out, hx3⟩
        case measure => (show n - ((i : Int) + 1).toNat < n - (i : Int).toNat); omega
    · obtain rfl : i = n := by omega
      obtain ⟨B, cB, rfl, hlB⟩ := Lst.of_own HO.out
      have hrB := hlB.room
      have hmB := hlB.max
      unfold maxLen at hmB
      have h2o : order % 3 = 0 ∨ order % 3 ≠ 0 := by omega
      rcases h2o with h2 | h2
      · have hb2 : ((order : Int).tmod 3 == 0) = true := by
          have : (order : Int).tmod 3 = ((order % 3 : Nat) : Int) := rfl
          rw [this, h2]; rfl
        have hb3 : ((order : Int) % 3 == 0) = true := by
          have : (order : Int) % 3 = ((order % 3 : Nat) : Int) := rfl
          rw [this, h2]; rfl
        have hAn : (B : Option Addr) = none → i = 0 ∧ cB = 0 := by
          rcases HO.out.2 with ⟨h, h2⟩ | ⟨g, cap, cur, h, _⟩
          · cases h
            exact fun _ => ⟨h2, rfl⟩
          · cases h
            exact fun h => by cases h
        have HAn := Lib.hid hAn
        have HLB := Lib.hid hlB
        clear hAn hlB
        go_wp2_with (at_builtin; refine wpList_append_lst (by rfl) (.tmp 41) (.tmp 42) rfl wr.heap.size _ 0 [] rfl (own_empty wr wr.heap.size _ 1 (Nat.le_refl _)) A0 n0 c0 l rfl HA0.out ?k2 ?k3 ?k4 ?_)
        case k2 => exact HL0.out.ext (hx.alloc _)
        case k3 => omega
        case k4 => simp
        intro va wa howa hgra
        have hxa : Ext wr wa := Ext.grown ((Ext.refl wr).alloc (.cells #[] 9)) hgra (fun k e => by cases e; exact Nat.le_refl _)
        have HOa : Hid (wa.ownsRow wr.heap.size 9 1 va n0 (l.map Value.string)) := by
          exact howa
        clear howa hgra
        go_wp2_with (at_builtin; refine wpList_append_lst (by rfl) (.tmp 43) (.tmp 44) rfl wr.heap.size va n0 _ rfl HOa.out B i cB (outA rows order i) rfl HAn.out ?m2 ?m3 ?m4 ?_)
        case m2 => exact HLB.out.ext hxa
        case m3 => omega
        case m4 => exact hxa.size
        intro vb wb howb hgrb
        have hxb : Ext wr wb := hxa.grown hgrb (fun k e => (HOa.out.lt k e).1)
        have HOb : Hid (wb.ownsRow w.heap.size 9 1 vb (i + n0) ((allA rows l order).map Value.string)) := by
          have h := howb
          rw [← List.map_append, Nat.add_comm n0 i] at h
          rw [hall.out, if_pos h2]
          exact own_weak h hx.size
        have hxw := hx.trans hxb
        clear howb hgrb
        go_wp2_with fail
        go_ret
        exact ⟨vb, rfl, HOb.out, hxw⟩
      · have hb2 : ((order : Int).tmod 3 == 0) = false := by
          have : (order : Int).tmod 3 = ((order % 3 : Nat) : Int) := rfl
          rw [this]; simp; omega
        have hb3 : ((order : Int) % 3 == 0) = false := by
          have : (order : Int) % 3 = ((order % 3 : Nat) : Int) := rfl
          rw [this]; simp; omega
        go_wp2_with (at_builtin; refine wpList_append_lst (by rfl) (.tmp 46) (.tmp 47) rfl w.heap.size _ i _ rfl HO.out A0 n0 c0 l rfl HA0.out ?k2 ?k3 ?k4 ?_)
        case k2 => exact HL0.out.ext hx
        case k3 => omega
        case k4 => exact hx.size
        intro va wa howa hgra
        have hxa : Ext w wa := hx.grown hgra (fun k e => (HO.out.lt k e).1)
        have HOa : Hid (wa.ownsRow w.heap.size 9 1 va (i + n0) ((allA rows l order).map Value.string)) := by
          have h := howa
          rw [← List.map_append] at h
          rw [hall.out, if_neg h2]
          exact h
        clear howa hgra
        go_wp2_with fail
        go_ret
        exact ⟨va, rfl, HOa.out, hxa⟩
theorem frames_tiny (s : ByteArray) (arch : Nat) (h : s.size ≤ 767) : framesP arch s = [] := by
  unfold framesP
  rw [show s.size - 767 = 0 by omega]
  rfl
theorem framesL_tiny (rows : List ByteArray) (arch : Nat) (h : ∀ s ∈ rows, s.size ≤ 300) : framesL rows arch = [] := by
  unfold framesL
  rw [List.flatMap_eq_nil_iff]
  exact fun s hs => frames_tiny s arch (by have := h s hs; omega)
theorem strip_mark (ps : List Pc) (h : ∀ p ∈ ps, Fit p) (k : Nat) (hk : 4 * k < ps.length) : inputP (stripB ps k) = [] := by
  have hc : 0 < (chunkP ps k).length := by rw [chunk_len]; omega
  obtain ⟨a, x, e, hl⟩ := mark_at (chunkP ps k) (fun p hp => h p (chunk_mem hp)) 0 hc
  have ha : a = [] := List.length_eq_zero_iff.1 (by omega)
  rw [ha, List.nil_append] at e
  have hm : isPl (stripB ps k).data.toList 0 = true := by
    unfold stripB isPl
    rw [BA_data, e]
    have h16 : plainM.length = 16 := rfl
    rw [List.drop_zero, List.take_left' h16, decide_eq_true rfl, decide_eq_true (by rw [List.length_append, h16]; omega)]
    rfl
  unfold inputP
  rw [if_pos hm]
theorem strips_mark (ps : List Pc) (h : ∀ p ∈ ps, Fit p) : ∀ x ∈ stripsL ps, inputP x = [] := by
  intro x hx
  unfold stripsL stripsN at hx
  obtain ⟨k, hk, rfl⟩ := List.mem_map.1 hx
  exact strip_mark ps h k (by have := List.mem_range.1 hk; omega)
theorem outA_mem {rows : List ByteArray} {order i : Nat} {x : ByteArray} (h : x ∈ outA rows order i) (hn : 0 < rows.length) : x ∈ rows := by
  unfold outA at h
  obtain ⟨j, -, rfl⟩ := List.mem_map.1 h
  have := idxA_lt order j hn
  rw [List.getD_eq_getElem?_getD, List.getElem?_eq_getElem this]
  exact List.getElem_mem _
theorem idxA_onto (n order j : Nat) (hj : j < n) : ∃ i, i < n ∧ idxA n order i = j := by
  have key : ∀ t, t < n → ∃ i, i < n ∧ (i + order) % n = t := by
    intro t ht
    refine ⟨(t + n * order - order) % n, Nat.mod_lt _ (by omega), ?_⟩
    have h1 : order ≤ n * order := Nat.le_mul_of_pos_left _ (by omega)
    rw [Nat.mod_add_mod, show t + n * order - order + order = t + n * order by omega, Nat.add_mul_mod_self_left, Nat.mod_eq_of_lt ht]
  unfold idxA
  by_cases h : order % 2 = 1
  · obtain ⟨i, h1, h2⟩ := key (n - 1 - j) (by omega)
    refine ⟨i, h1, ?_⟩
    rw [if_pos h, h2]; omega
  · obtain ⟨i, h1, h2⟩ := key j hj
    refine ⟨i, h1, ?_⟩
    rw [if_neg h, h2]
theorem outA_all {rows : List ByteArray} {order : Nat} {x : ByteArray} (h : x ∈ rows) : x ∈ outA rows order rows.length := by
  obtain ⟨j, hj, rfl⟩ := List.getElem_of_mem h
  obtain ⟨i, h1, h2⟩ := idxA_onto rows.length order j hj
  unfold outA
  refine List.mem_map.2 ⟨i, List.mem_range.2 h1, ?_⟩
  rw [h2, List.getD_eq_getElem?_getD, List.getElem?_eq_getElem hj]
  rfl
theorem allA_mem {rows l : List ByteArray} {order : Nat} (x : ByteArray) : x ∈ allA rows l order ↔ x ∈ rows ∨ x ∈ l := by
  have hout : x ∈ outA rows order rows.length ↔ x ∈ rows := by
    constructor
    · intro h
      by_cases hn : 0 < rows.length
      · exact outA_mem h hn
      · have : rows.length = 0 := by omega
        rw [this] at h
        unfold outA at h
        simp at h
    · exact outA_all
  unfold allA
  split
  · rw [List.mem_append, hout]; exact or_comm
  · rw [List.mem_append, hout]
theorem allA_frames {rows l : List ByteArray} {order arch : Nat} (hl : framesL l arch = []) (p : Pc) : p ∈ framesL (allA rows l order) arch ↔ p ∈ framesL rows arch := by
  have hl' : ∀ x ∈ l, framesP arch x = [] := by
    unfold framesL at hl
    exact List.flatMap_eq_nil_iff.1 hl
  unfold framesL
  simp only [List.mem_flatMap]
  constructor
  · rintro ⟨x, hx, hp⟩
    rcases (allA_mem x).1 hx with h | h
    · exact ⟨x, h, hp⟩
    · rw [hl' x h] at hp; cases hp
  · rintro ⟨x, hx, hp⟩
    exact ⟨x, (allA_mem x).2 (.inl hx), hp⟩
theorem allA_input {rows l : List ByteArray} {order : Nat} (h : ∀ x ∈ rows, inputP x = []) : (allA rows l order).flatMap inputP = l.flatMap inputP := by
  have ho : (outA rows order rows.length).flatMap inputP = [] := by
    rw [List.flatMap_eq_nil_iff]
    intro x hx
    by_cases hn : 0 < rows.length
    · exact h x (outA_mem hx hn)
    · have : rows.length = 0 := by omega
      rw [this] at hx
      unfold outA at hx
      simp at hx
  unfold allA
  split <;> rw [List.flatMap_append, ho]
  · rw [List.append_nil]
  · rw [List.nil_append]
/-- the boots of the law -/
theorem runs_boot (s : ByteArray) (arch order : Nat) (steps : Int) (l : List ByteArray) (ha : arch < 4294967296) (hs : s.size ≤ 40000) (hp : prB s.data.toList = true) (hT : 1 ≤ totalN s.size) (hl : framesL l arch = []) :
    bootO (allA (stripsL (piecesP s arch)) l order) arch steps = startO (fullB s).data.toList l arch steps ∧ bootO (stripsL (piecesP s arch) ++ allA (stripsL (piecesP s arch)) l order) arch steps = startO (fullB s).data.toList l arch steps ∧ loadA (framesL (allA (stripsL (piecesP s arch)) l order) arch) = ((fullB s).data.toList, [], 0) ∧ loadA (framesL (stripsL (piecesP s arch) ++ allA (stripsL (piecesP s arch)) l order) arch) = ((fullB s).data.toList, [], 0) := by
  have hld := load_strips s arch ha hs hp hT
  have hfit := pieces_fit s arch ha hs hp
  have hin := strips_mark (piecesP s arch) (fun p hp' => (hfit p hp').1)
  have hz : ∀ y ∈ framesL (stripsL (piecesP s arch)) arch, y.total ≠ 0 := fun y hy => by have := (framesL_sizes _ _ y hy).1; omega
  generalize stripsL (piecesP s arch) = rows at *
  have h1 : loadA (framesL (allA rows l order) arch) = ((fullB s).data.toList, [], 0) := by
    rw [← hld]
    exact (loadA_set hz fun x => (allA_frames hl x).symm).symm
  have h2 : loadA (framesL (rows ++ allA rows l order) arch) = ((fullB s).data.toList, [], 0) := by
    rw [← hld]
    refine (loadA_set hz fun x => ?_).symm
    rw [framesL_append, List.mem_append, allA_frames hl]
    simp
  have i1 : inputL (allA rows l order) arch = inputL l arch := by unfold inputL; rw [allA_input hin]
  have i2 : inputL (rows ++ allA rows l order) arch = inputL l arch := by
    unfold inputL
    rw [List.flatMap_append, allA_input hin, List.flatMap_eq_nil_iff.2 hin, List.nil_append]
  refine ⟨?_, ?_, h1, h2⟩
  · unfold bootO
    rw [h1]
    simp only [ne_eq, not_true_eq_false, if_false]
    unfold startO
    rw [i1]
  · unfold bootO
    rw [h2]
    simp only [ne_eq, not_true_eq_false, if_false]
    unfold startO
    rw [i2]
theorem full_pad (s : ByteArray) (k : Nat) (h : s.size + k ≤ totalN s.size * 64) (h2 : (s.size + k) % 64 = 0) : s ++ BA (List.replicate k 32) = fullB s := by
  unfold fullB
  rw [show totalN s.size * 64 - s.size = k by unfold totalN at h ⊢; omega]
theorem pad_snoc (s : ByteArray) (k : Nat) : s ++ BA (List.replicate k 32) ++ ⟨#[32]⟩ = s ++ BA (List.replicate (k + 1) 32) := bytes_inj (by simp [BA, List.replicate_succ'])
theorem three' {w : World} {b : Nat} {T : TypeId} {x0 x1 x2 : Value} (h : Blk w b T [x0, x1, x2]) :
    (w.cell? ⟨b, 0, none⟩ = some x0 ∧ w.cell? ⟨b, 1, none⟩ = some x1 ∧ w.cell? ⟨b, 2, none⟩ = some x2) ∧ (∀ i, w.frozen? ⟨b, i, none⟩ = false) ∧ b < w.heap.size :=
  ⟨⟨h.cell rfl, h.cell rfl, h.cell rfl⟩, fun i => blk_frozen h i, h.lt⟩
/-- what has come up of the last region: the rows that it makes -/
def RJ (W : World) (n N : Nat) (r1 r2 : List ByteArray) (L : Nat → Bool) (u : Nat → Value) (w : World) : Prop :=
  Ext W w ∧ (L 11 = true → L 9 = true) ∧ (L 7 = true → L 9 = false → w.ownsRow W.heap.size 9 1 (u 66) 0 []) ∧ (L 9 = true → L 11 = false → w.ownsRow W.heap.size 9 1 (u 68) n (r1.map Value.string)) ∧ (L 11 = true → w.ownsRow W.heap.size 9 1 (u 70) (n + N) ((r1 ++ r2).map Value.string))
section
variable {W : World} {n N : Nat} {r1 r2 : List ByteArray} {L L' : Nat → Bool} {u u' : Nat → Value} {w w' : World}
theorem RJ.grow (h : RJ W n N r1 r2 L u w) (hx : Ext w w') (h1 : L' 7 = L 7) (h2 : L' 9 = L 9) (h3 : L' 11 = L 11) (h4 : u' 66 = u 66) (h5 : u' 68 = u 68) (h6 : u' 70 = u 70) : RJ W n N r1 r2 L' u' w' := by
  obtain ⟨k0, k4, k1, k2, k3⟩ := h
  unfold RJ
  rw [h1, h2, h3, h4, h5, h6]
  exact ⟨k0.trans hx, k4, fun a b => own_ext (k1 a b) hx, fun a b => own_ext (k2 a b) hx, fun a => own_ext (k3 a) hx⟩
theorem RJ.build (h : RJ W n N r1 r2 L u w) (h2 : L' 9 = L 9) (h3 : L' 11 = L 11) (h4 : u' 66 = .slice (some ⟨w.heap.size, 0, none⟩) 0 0) (h5 : u' 68 = u 68) (h6 : u' 70 = u 70) : RJ W n N r1 r2 L' u' (w.alloc (.cells #[] 9)) := by
  obtain ⟨k0, k4, k1, k2, k3⟩ := h
  have hx := (Ext.refl w).alloc (.cells #[] 9)
  unfold RJ
  rw [h2, h3, h4, h5, h6]
  exact ⟨k0.trans hx, k4, fun _ _ => own_empty w _ _ 1 k0.size, fun a b => own_ext (k2 a b) hx, fun a => own_ext (k3 a) hx⟩
theorem RJ.app1 (h : RJ W n N r1 r2 L u w) (h9 : L 9 = false) {v : Value} (hg : w.grownBy w' (u 66).ownBlock) (h66 : w.ownsRow W.heap.size 9 1 (u 66) 0 []) (hown : w'.ownsRow W.heap.size 9 1 v n (r1.map Value.string)) (h2 : L' 9 = true) (h3 : L' 11 = L 11) (h5 : u' 68 = v) : RJ W n N r1 r2 L' u' w' := by
  obtain ⟨k0, k4, k1, k2, k3⟩ := h
  unfold RJ
  rw [h2, h3, h5]
  exact ⟨k0.grown hg (fun k e => (h66.lt k e).1), fun _ => rfl, (fun _ b => nomatch b), fun _ _ => hown, fun a => by rw [k4 a] at h9; cases h9⟩
theorem RJ.app2 (h : RJ W n N r1 r2 L u w) {v : Value} (h68 : w.ownsRow W.heap.size 9 1 (u 68) n (r1.map Value.string)) (hg : w.grownBy w' (u 68).ownBlock) (hown : w'.ownsRow W.heap.size 9 1 v (n + N) ((r1 ++ r2).map Value.string)) (h9 : L' 9 = true) (h3 : L' 11 = true) (h5 : u' 70 = v) : RJ W n N r1 r2 L' u' w' := by
  obtain ⟨k0, k4, k1, k2, k3⟩ := h
  unfold RJ
  rw [h9, h3, h5]
  exact ⟨k0.grown hg (fun k e => (h68.lt k e).1), fun _ => rfl, (fun _ b => nomatch b), (fun _ b => nomatch b), fun _ => hown⟩
end
theorem framesL_none_own {w : World} {base : Nat} {e : TypeId} {v : Value} (h : w.ownsRow base e 4 v 0 []) : ∃ A c, v = .slice A 0 c ∧ c ≤ maxLen := by
  rcases h.2 with ⟨h, -⟩ | ⟨g, cap, cur, h, -, -, -, hc, -⟩
  · exact ⟨none, 0, h, Nat.zero_le _⟩
  · exact ⟨_, cap, h, hc⟩
set_option maxRecDepth 100000 in
set_option maxHeartbeats 6400000 in
theorem lawRuns_any (s : ByteArray) (A0 : Option Addr) (n0 c0 : Nat) (rows0 : List ByteArray) (arch : Nat) (steps : Int) (order : Nat) (w : World) (hs : s.size ≤ maxLen) (hl0 : Lst w A0 n0 c0 (rows0.map Value.string)) (hz0 : ∀ x ∈ rows0, x.size ≤ maxLen) (hA0 : A0 = none → n0 = 0 ∧ c0 = 0) (ha : arch < 4294967296) (ho : order ≤ 255) (hE : Env w) :
    Calls Tryz.prog 8 #[.string s, .slice A0 n0 c0, .int .u32 arch, .int .i64 steps, .int .u8 order] w fun e w' => e = .returned (.bool true) ∧ Ext w w' := by
  have HA := Lib.hid (fun W (h : Env W) => alive_any W h)
  have HE := Lib.hid hE
  have hE0 := hE
  have hsm := fun W (h : Ext w W) => small_any s A0 n0 c0 rows0 steps W (hl0.ext h) hz0 hs
  have hmx0 := hl0.max
  have hrm0 := hl0.room
  unfold maxLen at hmx0
  cases hb : smallB s.size rows0 steps with
  | false =>
    rw [hb] at hsm
    have HSM := Lib.hid hsm
    clear hsm hb hE
    go_enter Tryz.func8, Tryz.ntmps8
    go_wp2_with fail
    refine (HA.out _ HE.out).mono ?_
    rintro e w1 ⟨rfl, hx1⟩
    go_wp2_with fail
    refine (HSM.out _ hx1).mono ?_
    rintro e w2 ⟨rfl, rfl⟩
    go_wp2_with fail
    go_ret
    exact ⟨rfl, hx1⟩
  | true =>
  rw [hb] at hsm
  obtain ⟨b1, b2, -, b4⟩ := smallB_spec hb
  have HSM := Lib.hid hsm
  have hS := fun W (h : Env W) => strips_any s arch W hs ha h
  have hn06 : n0 ≤ 6 := by rw [hl0.len, List.length_map]; exact b2
  rcases splitA_cases s arch with ⟨e1, e2⟩ | ⟨h40, hp, hsa⟩
  · rw [e1] at hS
    have hE2 : ((splitA s arch).2 != 0) = true := by simpa using e2
    have HS := Lib.hid hS
    generalize (splitA s arch).2 = E at *
    clear hS e1 e2 hE hsm hb b4
    go_enter Tryz.func8, Tryz.ntmps8
    go_wp2_with fail
    refine (HA.out _ HE.out).mono ?_
    rintro e w1 ⟨rfl, hx1⟩
    go_wp2_with fail
    refine (HSM.out _ hx1).mono ?_
    rintro e w1' ⟨rfl, rfl⟩
    go_wp2_with fail
    refine (HS.out _ (HE.out.ext hx1)).mono ?_
    rintro e w2 ⟨v, rfl, hown, hx2⟩
    have hxx := hx1.trans hx2
    clear hown hx1 hx2
    go_wp2_with fail
    go_ret
    exact ⟨rfl, hxx⟩
  · rw [hsa] at hS
    have hlen := stripsL_len (piecesP s arch)
    rw [pieces_len] at hlen
    have hzz := stripsL_sizes s arch ha h40 hp
    have hlf := framesL_tiny rows0 arch b4
    have hrb := fun hT => runs_boot s arch order steps rows0 ha h40 hp hT hlf
    have hld := fun hT => load_strips s arch ha h40 hp hT
    obtain ⟨n, hn⟩ : ∃ n, n = (totalN s.size + 3) / 4 := ⟨_, rfl⟩
    have hn5 : n ≤ 5 := by rw [hn]; unfold totalN; omega
    rw [← hn] at hlen
    simp only at hS
    generalize stripsL (piecesP s arch) = rows at *
    have HS := Lib.hid hS
    have HLEN := Lib.hid hlen
    have HZ := Lib.hid hzz
    have HRB := Lib.hid hrb
    clear hS hsa hlen hzz hrb hE hsm hb hp
    by_cases h0 : n = 0
    · subst h0
      clear hn
      go_enter Tryz.func8, Tryz.ntmps8
      go_wp2_with fail
      refine (HA.out _ HE.out).mono ?_
      rintro e w1 ⟨rfl, hx1⟩
      go_wp2_with fail
      refine (HSM.out _ hx1).mono ?_
      rintro e w1' ⟨rfl, rfl⟩
      go_wp2_with fail
      refine (HS.out _ (HE.out.ext hx1)).mono ?_
      rintro e w2 ⟨v, rfl, hown, hx2⟩
      obtain ⟨A, c, rfl, hl⟩ := Lst.of_own hown
      have hxx := hx1.trans hx2
      clear hown hl hx1 hx2
      rw [HLEN.out]
      go_wp2_with fail
      go_ret
      exact ⟨rfl, hxx⟩
    · have hT : 1 ≤ totalN s.size := by rw [hn] at h0; omega
      obtain ⟨hr1, hr2, hq1, hq2⟩ := HRB.out hT
      have hlen0 : rows0.length = n0 := by rw [hl0.len, List.length_map]
      have hpn : ((n : Int) == 0) = false := by simp; omega
      have HPc := Lib.hid (fun W (h : Ext w W) => (by
        have h := pieces_any A0 n0 c0 arch rows0 W (hE0.ext h) ha (hl0.ext h) (fun x hx => by have := b4 x hx; omega) (by rw [hlf]; exact Nat.zero_le _)
        rw [hlf] at h
        exact h : Calls Tryz.prog 21 #[.slice A0 n0 c0, .int .u32 arch] W fun e w' => ∃ v, e = .returned v ∧ w'.ownsRow W.heap.size 57 4 v 0 [] ∧ Ext W w'))
      have HST := Lib.hid (fun W (h : Ext w W) => start_any (fullB s) A0 n0 c0 arch rows0 steps W (by rw [full_size]; unfold totalN; omega) ha (hl0.ext h) (fun x hx => by have := b4 x hx; omega) (by
        have := inputL_bound rows0 arch 300 b4
        rw [hlen0] at this
        omega))
      have hsz : ∀ x ∈ rows ++ rows0, x.size ≤ 3072 := fun x hx => by
        rcases List.mem_append.1 hx with hx | hx
        · exact HZ.out x hx
        · have := b4 x hx; omega
      have hall1 : ∀ x ∈ allA rows rows0 order, x.size ≤ 3072 := fun x hx => by
        refine hsz x (List.mem_append.2 ?_)
        exact (allA_mem x).1 hx
      have hall2 : ∀ x ∈ rows ++ allA rows rows0 order, x.size ≤ 3072 := fun x hx => by
        rcases List.mem_append.1 hx with hx | hx
        · exact HZ.out x hx
        · exact hall1 x hx
      have hl1 : (allA rows rows0 order).length = n + n0 := by rw [allA_len, HLEN.out, hlen0]
      have hl2 : (rows ++ allA rows rows0 order).length = n + (n + n0) := by rw [List.length_append, hl1, HLEN.out]
      have hld2 := hld hT
      have hfull : (fullB s).data.toList.length ≤ 252144 := by
        show (fullB s).size ≤ _
        rw [full_size]; unfold totalN; omega
      have hB1 := fun W (h : Ext w W) B c (hl : Lst W B (n + n0) c ((allA rows rows0 order).map Value.string)) => boot_any B (n + n0) c arch (allA rows rows0 order) steps W (hE0.ext h) ha hl (fun x hx => by have := hall1 x hx; omega)
        (by have := inputL_bound _ arch 3072 hall1; rw [hl1] at this; omega) (by have := framesL_bound _ arch 3072 hall1; rw [hl1] at this; omega) (by rw [hq1]; exact hfull)
      have hB2 := fun W (h : Ext w W) B c (hl : Lst W B (n + (n + n0)) c ((rows ++ allA rows rows0 order).map Value.string)) => boot_any B (n + (n + n0)) c arch (rows ++ allA rows rows0 order) steps W (hE0.ext h) ha hl (fun x hx => by have := hall2 x hx; omega)
        (by have := inputL_bound _ arch 3072 hall2; rw [hl2] at this; omega) (by have := framesL_bound _ arch 3072 hall2; rw [hl2] at this; omega) (by rw [hq2]; exact hfull)
      rw [hr1] at hB1
      rw [hr2] at hB2
      obtain ⟨X, hX⟩ : ∃ X, X = startO (fullB s).data.toList rows0 arch steps := ⟨_, rfl⟩
      rw [← hX] at hB1 hB2 HST
      have HB1 := Lib.hid hB1
      have HB2 := Lib.hid hB2
      obtain ⟨x1, x2, x3⟩ := X
      have hb11 : outV (x1, x2, x3) = .agg #[.string (BA x1), .int .i64 x2, .int .i64 x3] := rfl
      rw [hb11] at HB1 HB2 HST
      have hAll := Lib.hid (fun W (h : Ext w W) A c (hl : Lst W A n c (rows.map Value.string)) => all_any A A0 n c n0 c0 order rows rows0 W HLEN.out hlen0 hl (hl0.ext h) hA0 (by omega) (by omega) ho)
      have HL0 := Lib.hid (fun W (h : Ext w W) => hl0.ext h)
      have HA0 := Lib.hid hA0
      clear hB1 hB2 hr1 hr2 hq1 hq2 hall1 hall2 hl1 hl2 hsz hX hld hld2 hfull hb11 hlf hlen0 b4 hl0 hz0 HRB HZ hE0 hA0 hn
      go_enter Tryz.func8, Tryz.ntmps8
      go_wp2_with fail
      refine (HA.out _ HE.out).mono ?_
      rintro e w1 ⟨rfl, hx1⟩
      go_wp2_with fail
      refine (HSM.out _ hx1).mono ?_
      rintro e w1' ⟨rfl, rfl⟩
      go_wp2_with fail
      refine (HS.out _ (HE.out.ext hx1)).mono ?_
      rintro e w2 ⟨v, rfl, hown, hx2⟩
      obtain ⟨A, c, rfl, hl⟩ := Lst.of_own (show w2.ownsRow w1.heap.size 9 1 v n (rows.map Value.string) from by have h := hown; rw [HLEN.out] at h; exact h)
      have hAn : A = none → n = 0 ∧ c = 0 := by
        rcases hown.2 with ⟨h, h2⟩ | ⟨g, cap, cur, h, _⟩
        · cases h
          rw [HLEN.out] at h2
          exact fun _ => ⟨h2, rfl⟩
        · cases h
          exact fun h => by cases h
      have hxx := hx1.trans hx2
      have hr := hl.room
      have hm := hl.max
      unfold maxLen at hm
      have HL := Lib.hid hl
      have HAn := Lib.hid hAn
      clear hown hl hx1 hx2 hAn
      go_wp2_with fail
      refine (HPc.out _ hxx).mono ?_
      rintro e w3 ⟨vp, rfl, hownp, hx3⟩
      obtain ⟨Ap, cp, rfl, hcp⟩ := framesL_none_own hownp
      have hxx3 := hxx.trans hx3
      have HL3 := Lib.hid (HL.out.ext hx3)
      unfold maxLen at hcp
      clear hownp hx3 hxx HL
      go_wp2_with fail
      obtain ⟨Z, hZ⟩ : ∃ Z, Z = totalN s.size * 64 := ⟨_, rfl⟩
      have hZ1 : s.size ≤ Z := by rw [hZ]; unfold totalN; omega
      have hZ2 : Z < s.size + 64 := by rw [hZ]; unfold totalN; omega
      have hZ3 : Z % 64 = 0 := by rw [hZ]; omega
      have HZF := Lib.hid (fun k (h : s.size + k = Z) => full_pad s k (by rw [← hZ]; omega) (by rw [h]; exact hZ3))
      clear hZ hT
      go_loopw [13] (fun tv wr => wr = w3 ∧ ∃ k : Nat, s.size + k ≤ Z ∧ tv = .string (s ++ BA (List.replicate k 32))) (fun tv _ => match tv with | .string t => Z - t.size | _ => 0)
      case atStart => exact ⟨rfl, 0, by omega, by congr 1; exact bytes_inj (by simp [BA])⟩
      case round =>
        obtain ⟨rfl, k, hk, rfl⟩ := hrel
        obtain ⟨T, hTT⟩ : ∃ T, T = s ++ BA (List.replicate k 32) := ⟨_, rfl⟩
        have hTs : T.size = s.size + k := by rw [hTT, ByteArray.size_append, BA_size, List.length_replicate]
        have hps := pad_snoc s k
        rw [← hTT] at hps ⊢
        have HTT := Lib.hid hTT
        have HPS := Lib.hid hps
        obtain ⟨m, hm⟩ : ∃ m, m = T.size := ⟨_, rfl⟩
        have HTS := Lib.hid hTs
        clear hTT hps hm
        by_cases hlt : s.size + k < Z
        · have hmod : 0 < T.size % 64 := by omega
          have hr1 : ((T.size : Int).tmod 64) = ((T.size % 64 : Nat) : Int) := rfl
          have hr2 : ((T.size : Int) % 64) = ((T.size % 64 : Nat) : Int) := rfl
          generalize T.size % 64 = d at *
          have hr3 : decide ((0 : Int) < (d : Int)) = true := decide_eq_true (by omega)
          go_wp2_with fail
          go_roundw
          case rel => exact ⟨trivial, k + 1, by omega, by rw [HPS.out]⟩
          case measure =>
            show Z - (T ++ ⟨#[32]⟩).size < Z - T.size
            have h1 : (⟨#[32]⟩ : ByteArray).size = 1 := rfl
            rw [ByteArray.size_append, h1]
            omega
        · have hmod : T.size % 64 = 0 := by omega
          have hr1 : ((T.size : Int).tmod 64) = 0 := by
            have : ((T.size : Int).tmod 64) = ((T.size % 64 : Nat) : Int) := rfl
            rw [this, hmod]; rfl
          have hr2 : ((T.size : Int) % 64) = 0 := by
            have : ((T.size : Int) % 64) = ((T.size % 64 : Nat) : Int) := rfl
            rw [this, hmod]; rfl
          have hTF : T = fullB s := by rw [HTT.out]; exact HZF.out k (by omega)
          subst hTF
          clear hmod hk hlt hTs
          go_wp2_with fail
          refine (HST.out _ hxx3).mono ?_
          rintro e w5 ⟨rfl, hx5⟩
          have hx05 := hxx3.trans hx5
          have hb5 : Blk (w5.alloc (.cells #[.string (BA x1), .int .i64 x2, .int .i64 x3] 28)) w5.heap.size 28 [.string (BA x1), .int .i64 x2, .int .i64 x3] := heap_alloc_new w5 _
          have hx06 := hx05.alloc (.cells #[.string (BA x1), .int .i64 x2, .int .i64 x3] 28)
          have HL6 := Lib.hid (HL3.out.ext (hx5.alloc (.cells #[.string (BA x1), .int .i64 x2, .int .i64 x3] 28)))
          have HALL := Lib.hid (hAll.out _ hx06 A c HL6.out)
          have HB5 := Lib.hid hb5
          clear hb5 HL3 hx05 hxx3
          go_wp2_with fail
          refine HALL.out.mono ?_
          rintro e w6 ⟨vb, rfl, hownb, hx6⟩
          obtain ⟨N, hN⟩ : ∃ N, N = n + n0 := ⟨_, rfl⟩
          rw [← hN] at hownb
          obtain ⟨B, cB, rfl, hlB⟩ := Lst.of_own hownb
          have hrB := hlB.room
          have hmB := hlB.max
          unfold maxLen at hmB
          have hBn : (B : Option Addr) = none → N = 0 ∧ cB = 0 := by
            rcases hownb.2 with ⟨h, h2⟩ | ⟨g, cap, cur, h, _⟩
            · cases h
              exact fun _ => ⟨h2, rfl⟩
            · cases h
              exact fun h => by cases h
          have hN12 : N ≤ 12 := by omega
          have hb1 := fun W h c hl => HB1.out W h B c hl
          have hb2 := fun W h C c hl => HB2.out W h C c hl
          rw [← hN] at hb1 hb2
          have HC1 := Lib.hid hb1
          have HC2 := Lib.hid hb2
          have HLB := Lib.hid hlB
          have HBN := Lib.hid hBn
          have HB6 := Lib.hid (HB5.out.ext hx6)
          have hx07 := hx06.trans hx6
          have HL7 := Lib.hid (HL6.out.ext hx6)
          obtain ⟨W5, hW5⟩ : ∃ W5, W5 = w5.heap.size := ⟨_, rfl⟩
          rw [← hW5] at HB6 ⊢
          clear hb1 hb2 hlB hBn hownb HB5 HL6 HALL hx6 hx06 hN HB1 HB2 hAll HST HPc HS HSM HA hr1 hr2 hW5 hx5
          go_upto_region 13 with fail
          have hq := fun s => out_eq s
          refine wp_region_inv (l := [_, _, _, _, _, _, _, _, _, _, _, _, _, _, _, _, _, _, _])
            [(0, 59, .slice B N cB), (1, 60, .int .u32 (arch : Int)), (2, 61, .int .i64 steps), (3, 62, .agg #[.string (BA x1), .int .i64 x2, .int .i64 x3]), (4, 63, .agg #[.string (BA x1), .int .i64 x2, .int .i64 x3]), (5, 64, .bool true), (6, 65, .bool true), (8, 67, .slice A n c), (10, 69, .slice B N cB), (12, 71, .int .u32 (arch : Int)), (13, 72, .int .i64 steps), (14, 73, .agg #[.string (BA x1), .int .i64 x2, .int .i64 x3]), (15, 74, .agg #[.string (BA x1), .int .i64 x2, .int .i64 x3]), (16, 75, .bool true), (17, 76, .bool true), (18, 10, .bool true)] [66, 68, 70]
            (RJ w6 n N rows (allA rows rows0 order)) (by kernel_rfl) (by kernel_rfl) (by kernel_rfl) (by kernel_rfl) (by kernel_rfl) ?_ ?_ ?_
          · exact ⟨(Ext.refl _).drew, fun h => absurd h (by decide), fun h => absurd h (by decide), fun h => absurd h (by decide), fun h => absurd h (by decide)⟩
          · refine ⟨?_, ?_, ?_, ?_, ?_, ?_, ?_, ?_, ?_, ?_, ?_, ?_, ?_, ?_, ?_, ?_, ?_, ?_, ?_, trivial⟩
            all_goals
              intro L a v K hsz hLi hpre hkn hold hJ hK
              have o2 := hold 2 (by kernel_rfl)
              have o3 := hold 3 (by kernel_rfl)
              have o11 := hold 11 (by kernel_rfl)
              have o14 := hold 14 (by kernel_rfl)
              have o15 := hold 15 (by kernel_rfl)
              simp only [List.forall_mem_cons, List.forall_mem_nil] at hkn
              obtain ⟨k0, k1, k2, k3, k4, k5, k6, k8, k10, k12, k13, k14, k15, k16, k17, k18, -⟩ := hkn
              simp [Region.binds] at hpre
              simp at o2 o3 o11 o14 o15
              clear hold hsz
              have hext := hJ.1
            all_goals try have e0 := k0 (by simp [hpre])
            all_goals try have e1 := k1 (by simp [hpre])
            all_goals try have e2 := k2 (by simp [hpre])
            all_goals try have e3 := k3 (by simp [hpre])
            all_goals try have e4 := k4 (by simp [hpre])
            all_goals try have e5 := k5 (by simp [hpre])
            all_goals try have e6 := k6 (by simp [hpre])
            all_goals try have e8 := k8 (by simp [hpre])
            all_goals try have e10 := k10 (by simp [hpre])
            all_goals try have e12 := k12 (by simp [hpre])
            all_goals try have e13 := k13 (by simp [hpre])
            all_goals try have e14 := k14 (by simp [hpre])
            all_goals try have e15 := k15 (by simp [hpre])
            all_goals try have e16 := k16 (by simp [hpre])
            all_goals try have e17 := k17 (by simp [hpre])
            all_goals try have e18 := k18 (by simp [hpre])
            all_goals clear k0 k1 k2 k3 k4 k5 k6 k8 k10 k12 k13 k14 k15 k16 k17 k18
            all_goals try simp only [Array.getD_eq_getD_getElem?] at e0
            all_goals try simp only [Array.getD_eq_getD_getElem?] at e1
            all_goals try simp only [Array.getD_eq_getD_getElem?] at e2
            all_goals try simp only [Array.getD_eq_getD_getElem?] at e3
            all_goals try simp only [Array.getD_eq_getD_getElem?] at e4
            all_goals try simp only [Array.getD_eq_getD_getElem?] at e5
            all_goals try simp only [Array.getD_eq_getD_getElem?] at e6
            all_goals try simp only [Array.getD_eq_getD_getElem?] at e8
            all_goals try simp only [Array.getD_eq_getD_getElem?] at e10
            all_goals try simp only [Array.getD_eq_getD_getElem?] at e12
            all_goals try simp only [Array.getD_eq_getD_getElem?] at e13
            all_goals try simp only [Array.getD_eq_getD_getElem?] at e14
            all_goals try simp only [Array.getD_eq_getD_getElem?] at e15
            all_goals try simp only [Array.getD_eq_getD_getElem?] at e16
            all_goals try simp only [Array.getD_eq_getD_getElem?] at e17
            all_goals try simp only [Array.getD_eq_getD_getElem?] at e18
            case refine_1 | refine_2 | refine_3 | refine_6 | refine_7 | refine_9 | refine_11 | refine_13 | refine_14 | refine_17 | refine_18 | refine_19 =>
              unfold guardOk
              go_simp
              refine hK _ _ ?_ (hJ.grow (Ext.refl _) rfl rfl rfl rfl rfl rfl)
              simp [o2, o3, o11, o15]
            case refine_5 | refine_16 =>
              obtain ⟨⟨b0, b1, b2⟩, hfz, hlt⟩ := three' (HB6.out.ext hext)
              clear hfz
              unfold guardOk
              go_simp
              refine hK _ _ ?_ (hJ.grow (Ext.refl _) rfl rfl rfl rfl rfl rfl)
              simp
            case refine_4 =>
              unfold guardOk
              go_simp
              refine (HC1.out _ (hx07.trans hext) _ (HLB.out.ext hext)).mono ?_
              rintro e w7 ⟨rfl, hx7⟩
              refine hK _ _ ?_ (hJ.grow hx7 rfl rfl rfl rfl rfl rfl)
              simp
            case refine_8 =>
              unfold guardOk
              go_simp
              refine hK _ _ ?_ (hJ.build rfl rfl rfl rfl rfl)
              simp
            case refine_10 =>
              have h7 := hJ.2.2.1 (by simp [hpre]) hLi
              rw [if_pos (by unfold guardOk; simp [e6])]
              refine wp_append_lst (.tmp 66) (.tmp 67) rfl w6.heap.size _ 0 [] rfl h7 A n c rows (by show a.tmps.getD 67 undef = _; rw [Array.getD_eq_getD_getElem?]; exact e8) HAn.out (HL7.out.ext hext) (by omega) hext.size ?_
              intro v' w' hown' hgr
              refine hK _ _ ?_ (hJ.app1 hLi hgr h7 (by have h := hown'; rwa [Nat.zero_add] at h) rfl rfl rfl)
              simp
            case refine_12 =>
              have h7 := hJ.2.2.2.1 (by simp [hpre]) hLi
              rw [if_pos (by unfold guardOk; simp [e6])]
              refine wp_append_lst (.tmp 68) (.tmp 69) rfl w6.heap.size _ n _ rfl h7 B N cB (allA rows rows0 order) (by show a.tmps.getD 69 undef = _; rw [Array.getD_eq_getD_getElem?]; exact e10) HBN.out (HLB.out.ext hext) (by omega) hext.size ?_
              intro v' w' hown' hgr
              refine hK _ _ ?_ (hJ.app2 h7 hgr (by have h := hown'; rwa [← List.map_append] at h) (by simp [hpre]) rfl rfl)
              simp
            case refine_15 =>
              have h7 := hJ.2.2.2.2 (by simp [hpre])
              obtain ⟨C, cC, hC, hlC⟩ := Lst.of_own h7
              simp only [Array.getD_eq_getD_getElem?] at hC
              unfold guardOk
              go_simp
              refine (HC2.out _ (hx07.trans hext) _ _ hlC).mono ?_
              rintro e w7 ⟨rfl, hx7⟩
              refine hK _ _ ?_ (hJ.grow hx7 rfl rfl rfl rfl rfl rfl)
              simp
          · intro u v hJ
            have hxv := hx07.trans hJ.1
            clear hJ
            simp only [List.map_cons, List.map_nil, List.cons_append, List.nil_append, putAll, Act.put, List.setIfInBounds_toArray, List.set_cons_zero, List.set_cons_succ]
            go_wp2_with fail
            go_ret
            exact ⟨rfl, hxv⟩
end Go.Proofs.YtjmglbppmolipaaGreatDoor
