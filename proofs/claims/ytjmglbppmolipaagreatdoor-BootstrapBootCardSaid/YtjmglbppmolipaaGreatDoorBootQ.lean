/- Lists of pieces: appended, cut; small and all of the laws. (Layer 28) -/
import Derived.Test.YtjmglbppmolipaaGreatDoorBootB2
namespace Go.Proofs.YtjmglbppmolipaaGreatDoor
open Go.RowKit
open Go.Lib hiding intOf
set_option linter.unusedVariables false

/-- an append of a list of strings, whatever slice it is, to a row of strings that the function owns -/
theorem wp_append_lst {w : World} {o : Oper} {a : Act} {K : Act → World → Prop} {Q : Exit → Act → World → Prop} (s x : Operand)
    (ho : o.op = .call { callee := .builtin .append, args := #[s, x], argTypes := #[22, 22] })
    (base : Nat) (v : Value) (n : Nat) (xs : List Value) (hs : a.eval s = v) (hown : w.ownsRow base 9 1 v n xs) (A : Option Addr) (m c : Nat) (rows : List ByteArray) (hx : a.eval x = .slice A m c) (hA : A = none → m = 0 ∧ c = 0)
    (hl : Lst w A m c (rows.map Value.string)) (hb : n + m ≤ 100000) (hbase : base ≤ w.heap.size)
    (h : ∀ v' w', w'.ownsRow base 9 1 v' (n + m) (xs ++ rows.map Value.string) → w.grownBy w' v.ownBlock → K (a.put o.dst v') w') : o.wp Tryz.prog a w K Q := by
  obtain ⟨i0, hi0, hz0, hz1, hz2⟩ := info_parts strInfoB
  have hlen : m = rows.length := by rw [hl.len, List.length_map]
  match A, hx, hA, hl with
  | none, hx, hA, hl =>
    obtain ⟨rfl, rfl⟩ := hA rfl
    have hr : rows = [] := List.eq_nil_of_length_eq_zero hlen.symm
    subst hr
    have hrun := run_append_owned_none (P := Tryz.prog) (w := w) base 22 o.type 9 i0 1 Tryz.underlying22 hi0 v n xs hown
    unfold Oper.wp
    simp [execOp, ho, resolve, invoke, builtin, hs, hx, hrun, Result.andThen]
    exact h v w (by rw [Nat.add_zero, List.map_nil, List.append_nil]; exact hown) ⟨rfl, rfl, rfl, Nat.le_refl _, fun _ _ _ => rfl⟩
  | some ad, hx, _, hl =>
    refine wp_append_own w s x _ ho base _ i0 _ 1 16 Tryz.underlying22 hi0 hz0 hz1 hz2 rfl (by omega) v n xs hs hown ad m c (rows.map Value.string) hx (by rw [List.length_map, hlen, Nat.mul_one]) ?_ ?_ (by unfold maxLen; omega) (by omega) hbase fun v' w' k1 k2 _ => h v' w' k1 k2
    · intro j u hj
      have hj' : j < (rows.map Value.string).length := (List.getElem?_eq_some_iff.1 hj).1
      obtain ⟨b, off, e, hc⟩ := hl.at_ (by rw [List.length_map] at hj'; omega)
      obtain rfl := Option.some.inj e
      have h1 := hc j hj'
      rw [List.getElem?_eq_getElem hj'] at hj
      rw [Option.some.inj hj] at h1
      have e : (⟨b, off, none⟩ : Addr).add j = ⟨b, off + j, none⟩ := by
        unfold Addr.add
        split
        · rename_i h0; rw [h0]; rfl
        · rfl
      rw [e]; exact h1
    · intro u hu
      obtain ⟨r, -, rfl⟩ := List.mem_map.1 hu
      rfl
theorem wpList_append_lst {w : World} {ops : Array Oper} {rest : List Oper} {o : Oper} {a : Act} {Q : Exit → Act → World → Prop} (hw : Region.wanted o (yielded ops a.tmps) = true) (s x : Operand)
    (ho : o.op = .call { callee := .builtin .append, args := #[s, x], argTypes := #[22, 22] })
    (base : Nat) (v : Value) (n : Nat) (xs : List Value) (hs : a.eval s = v) (hown : w.ownsRow base 9 1 v n xs) (A : Option Addr) (m c : Nat) (rows : List ByteArray) (hx : a.eval x = .slice A m c) (hA : A = none → m = 0 ∧ c = 0)
    (hl : Lst w A m c (rows.map Value.string)) (hb : n + m ≤ 100000) (hbase : base ≤ w.heap.size)
    (h : ∀ v' w', w'.ownsRow base 9 1 v' (n + m) (xs ++ rows.map Value.string) → w.grownBy w' v.ownBlock → wpList Tryz.prog ops Q rest (a.put o.dst v') w') : wpList Tryz.prog ops Q (o :: rest) a w := by
  unfold wpList
  rw [if_pos hw]
  exact .inl (wp_append_lst s x ho base v n xs hs hown A m c rows hx hA hl hb hbase h)
theorem step_append_lst {w : World} {ops : Array Oper} {o : Oper} {a : Act} {K : Act → World → Prop} {Q : Exit → Act → World → Prop} {E : Prop} (hw : Region.wanted o (yielded ops a.tmps) = true) (s x : Operand)
    (ho : o.op = .call { callee := .builtin .append, args := #[s, x], argTypes := #[22, 22] })
    (base : Nat) (v : Value) (n : Nat) (xs : List Value) (hs : a.eval s = v) (hown : w.ownsRow base 9 1 v n xs) (A : Option Addr) (m c : Nat) (rows : List ByteArray) (hx : a.eval x = .slice A m c) (hA : A = none → m = 0 ∧ c = 0)
    (hl : Lst w A m c (rows.map Value.string)) (hb : n + m ≤ 100000) (hbase : base ≤ w.heap.size)
    (h : ∀ v' w', w'.ownsRow base 9 1 v' (n + m) (xs ++ rows.map Value.string) → w.grownBy w' v.ownBlock → K (a.put o.dst v') w') :
    if Region.wanted o (yielded ops a.tmps) = true then Oper.wp Tryz.prog o a w K Q else E := by
  rw [if_pos hw]
  exact wp_append_lst s x ho base v n xs hs hown A m c rows hx hA hl hb hbase h
/-- a list that is read is read still where only an owned row of the call's own has grown -/
theorem Lst.far {w w' : World} {A : Option Addr} {n c : Nat} {xs : List Value} {base B : Nat} {row : Option Nat} (h : Lst w A n c xs) (hA : ∀ p, A = some p → p.block < B) (hg : w.grownBy w' row) (hr : ∀ k, row = some k → B ≤ k) : Lst w' A n c xs :=
  ⟨h.len, h.room, h.max, fun hn => by
    obtain ⟨b, off, rfl, hc⟩ := h.at_ hn
    have hb : b < B := hA _ rfl
    refine ⟨b, off, rfl, fun i hi => ?_⟩
    have h1 := hc i hi
    have hlt := cell_lt h1
    have e : w'.heap[b]? = w.heap[b]? := hg.block b hlt (fun e => by have := hr b e.symm; omega)
    unfold World.cell? at h1 ⊢
    rw [e]; exact h1⟩
theorem Lst.take {w : World} {A : Option Addr} {n c : Nat} {xs : List Value} (h : Lst w A n c xs) (k : Nat) (hk : k ≤ n) : Lst w A k c (xs.take k) :=
  ⟨by rw [List.length_take, ← h.len]; omega, Nat.le_trans hk h.room, h.max, fun hk0 => by
    obtain ⟨b, off, hA, hc⟩ := h.at_ (by omega)
    refine ⟨b, off, hA, fun i hi => ?_⟩
    rw [List.length_take] at hi
    have := hc i (by omega)
    rw [List.getElem_take]; exact this⟩
theorem Lst.drop {w : World} {b off n c : Nat} {xs : List Value} (h : Lst w (some ⟨b, off, none⟩) n c xs) (k : Nat) (hk : k ≤ n) : Lst w (some ⟨b, off + k, none⟩) (n - k) (c - k) (xs.drop k) :=
  ⟨by rw [List.length_drop, ← h.len], by have := h.room; omega, by have := h.max; omega, fun hk0 => by
    obtain ⟨b', off', hA, hc⟩ := h.at_ (by omega)
    have e := Option.some.inj hA
    injection e with e1 e2
    subst e1
    subst e2
    refine ⟨b, off + k, rfl, fun i hi => ?_⟩
    rw [List.length_drop] at hi
    have := hc (k + i) (by omega)
    rw [List.getElem_drop, Nat.add_assoc]; exact this⟩
/-- what small answers -/
def smallB (z : Nat) (rows : List ByteArray) (steps : Int) : Bool := decide (z ≤ 1000 ∧ rows.length ≤ 6 ∧ steps ≤ 100000 ∧ ∀ s ∈ rows, s.size ≤ 300)
theorem smallB_spec {z : Nat} {rows : List ByteArray} {steps : Int} (h : smallB z rows steps = true) : z ≤ 1000 ∧ rows.length ≤ 6 ∧ steps ≤ 100000 ∧ ∀ s ∈ rows, s.size ≤ 300 := of_decide_eq_true h
set_option maxRecDepth 100000 in
set_option maxHeartbeats 1600000 in
theorem small_any (text : ByteArray) (A : Option Addr) (n c : Nat) (rows : List ByteArray) (steps : Int) (w : World) (hl : Lst w A n c (rows.map Value.string)) (hz : ∀ s ∈ rows, s.size ≤ maxLen) (ht : text.size ≤ maxLen) :
    Calls Tryz.prog 11 #[.string text, .slice A n c, .int .i64 steps] w fun e w' => e = .returned (.bool (smallB text.size rows steps)) ∧ w = w' := by
  have hlen : n = rows.length := by rw [hl.len, List.length_map]
  have hroom := hl.room
  have hmax := hl.max
  unfold maxLen at hmax ht
  have HLN := Lib.hid hlen
  by_cases h1 : 1000 < text.size ∨ 6 < n ∨ 100000 < steps
  · have hb : smallB text.size rows steps = false := by
      unfold smallB
      refine decide_eq_false fun h => ?_
      omega
    rw [hb]
    clear hb hlen
    by_cases h2 : 1000 < text.size
    · have d1 : decide ((1000 : Int) < (text.size : Int)) = true := decide_eq_true (by omega)
      clear h1 h2
      go_enter Tryz.func11, Tryz.ntmps11
      go_wp2_with fail
      go_ret
      exact ⟨rfl, rfl⟩
    have d1 : decide ((1000 : Int) < (text.size : Int)) = false := decide_eq_false (by omega)
    by_cases h3 : 6 < n
    · have d2 : decide ((6 : Int) < (n : Int)) = true := decide_eq_true (by omega)
      clear h1 h2 h3
      go_enter Tryz.func11, Tryz.ntmps11
      go_wp2_with fail
      go_ret
      exact ⟨rfl, rfl⟩
    · have d2 : decide ((6 : Int) < (n : Int)) = false := decide_eq_false (by omega)
      have d3 : decide ((100000 : Int) < steps) = true := decide_eq_true (by omega)
      clear h1 h2 h3
      go_enter Tryz.func11, Tryz.ntmps11
      go_wp2_with fail
      go_ret
      exact ⟨rfl, rfl⟩
  have d1 : decide ((1000 : Int) < (text.size : Int)) = false := decide_eq_false (by omega)
  have d2 : decide ((6 : Int) < (n : Int)) = false := decide_eq_false (by omega)
  have d3 : decide ((100000 : Int) < steps) = false := decide_eq_false (by omega)
  have hsm : smallB text.size rows steps = decide (∀ s ∈ rows, s.size ≤ 300) := by
    unfold smallB
    rw [decide_eq_decide]
    exact ⟨fun h => h.2.2.2, fun h => ⟨by omega, by omega, by omega, h⟩⟩
  have HSM := Lib.hid hsm
  have HZ := Lib.hid hz
  have hn6 : n ≤ 6 := by omega
  clear h1 hsm hlen hz
  go_enter Tryz.func11, Tryz.ntmps11
  go_wp2_with fail
  go_loop [7] (fun iv => ∃ i : Nat, iv = .int .i64 i ∧ i ≤ n ∧ ∀ s ∈ rows.take i, s.size ≤ 300) (fun iv => n - (intOf iv).toNat)
  case atStart => exact ⟨0, rfl, Nat.zero_le _, fun s hs => by simp at hs⟩
  case round =>
    obtain ⟨i, rfl, hi, hall⟩ := hrel
    have HALL := Lib.hid hall
    clear hall
    by_cases hlt : i < n
    · obtain ⟨b, off, rfl, hc⟩ := hl.at_ (by omega)
      have hil : i < rows.length := by have := HLN.out; omega
      have hc1 := hc i (by rw [List.length_map]; exact hil)
      rw [List.getElem_map] at hc1
      have hzi := HZ.out _ (List.getElem_mem hil)
      have HT := Lib.hid (List.take_succ_eq_append_getElem hil)
      have HM := Lib.hid (List.getElem_mem hil)
      generalize rows[i] = x at *
      unfold maxLen at hzi
      clear hc hil
      by_cases h3 : 300 < x.size
      · have d4 : decide ((300 : Int) < (x.size : Int)) = true := decide_eq_true (by omega)
        have HF : Hid (smallB text.size rows steps = false) := by
          show _ = _
          rw [HSM.out]
          refine decide_eq_false fun h => ?_
          have := h x HM.out
          omega
        clear h3
        go_wp2_with fail
        go_ret
        exact ⟨ret_bool HF.out.symm, rfl⟩
      · have d4 : decide ((300 : Int) < (x.size : Int)) = false := decide_eq_false (by omega)
        have h3' : x.size ≤ 300 := by omega
        clear h3
        go_wp2_with fail
        go_round
        case rel => exact ⟨i + 1, by go_num, by omega, fun s hs => by
          rw [HT.out] at hs
          rcases List.mem_append.1 hs with hs | hs
          · exact HALL.out s hs
          · rw [List.mem_singleton.1 hs]; exact h3'⟩
        case measure => simp [intOf]; omega
    · obtain rfl : i = n := by omega
      have HF : Hid (smallB text.size rows steps = true) := by
        show _ = _
        rw [HSM.out]
        refine decide_eq_true fun s hs => HALL.out s ?_
        rw [List.take_of_length_le (by rw [HLN.out]; exact Nat.le_refl _)]
        exact hs
      go_wp2_with fail
      go_ret
      exact ⟨ret_bool HF.out.symm, rfl⟩
end Go.Proofs.YtjmglbppmolipaaGreatDoor
