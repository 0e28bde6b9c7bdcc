/- The law LoaderOrder returns true. (Layer 27) -/
import Derived.Test.YtlkiaeelnbjchaaDoorLdAwake
import Derived.Test.YtlkiaeelnbjchaaDoorLdLaws
import Derived.Test.YtlkiaeelnbjchaaDoorLdLoad2
import Derived.Test.YtlkiaeelnbjchaaDoorLdRLoad
import Derived.Test.YtlkiaeelnbjchaaDoorLdPlain
namespace Go.Proofs.YtlkiaeelnbjchaaDoor
open Go.RowKit
open Go.Lib hiding intOf
set_option linter.unusedVariables false

theorem strInfo7 : (Tryd.prog.info? 9).map (fun i => (i.zero, i.size, i.bytes)) = some (some (.string ⟨#[]⟩), 1, 16) := by kernel_rfl
/-- an append of a list of strings, whatever slice it is, to a row of strings that the function owns -/
theorem wpList_append_lst {w : World} {ops : Array Oper} {rest : List Oper} {o : Oper} {a : Act} {Q : Exit → Act → World → Prop} (hw : Region.wanted o (yielded ops a.tmps) = true) (s x : Operand)
    (ho : o.op = .call { callee := .builtin .append, args := #[s, x], argTypes := #[22, 22] })
    (base : Nat) (v : Value) (n : Nat) (xs : List Value) (hs : a.eval s = v) (hown : w.ownsRow base 9 1 v n xs) (A : Option Addr) (m c : Nat) (rows : List ByteArray) (hx : a.eval x = .slice A m c) (hA : A = none → m = 0 ∧ c = 0)
    (hl : Lst w A m c (rows.map Value.string)) (hb : n + m ≤ 100000) (hbase : base ≤ w.heap.size)
    (h : ∀ v' w', w'.ownsRow base 9 1 v' (n + m) (xs ++ rows.map Value.string) → w.grownBy w' v.ownBlock → wpList Tryd.prog ops Q rest (a.put o.dst v') w') : wpList Tryd.prog ops Q (o :: rest) a w := by
  obtain ⟨i0, hi0, hz0, hz1, hz2⟩ := info_parts strInfo7
  have hlen : m = rows.length := by rw [hl.len, List.length_map]
  unfold wpList
  rw [if_pos hw]
  refine .inl ?_
  match A, hx, hA, hl with
  | none, hx, hA, hl =>
    obtain ⟨rfl, rfl⟩ := hA rfl
    have hr : rows = [] := List.eq_nil_of_length_eq_zero hlen.symm
    subst hr
    have hrun := run_append_owned_none (P := Tryd.prog) (w := w) base 22 o.type 9 i0 1 Tryd.underlying22 hi0 v n xs hown
    unfold Oper.wp
    simp [execOp, ho, resolve, invoke, builtin, hs, hx, hrun, Result.andThen]
    exact h v w (by rw [Nat.add_zero, List.map_nil, List.append_nil]; exact hown) ⟨rfl, rfl, rfl, Nat.le_refl _, fun _ _ _ => rfl⟩
  | some ad, hx, _, hl =>
    refine wp_append_own w s x _ ho base _ i0 _ 1 16 Tryd.underlying22 hi0 hz0 hz1 hz2 rfl (by omega) v n xs hs hown ad m c (rows.map Value.string) hx (by rw [List.length_map, hlen, Nat.mul_one]) ?_ ?_ (by unfold maxLen; omega) (by omega) hbase fun v' w' k1 k2 _ => h v' w' k1 k2
    · intro j u hj
      have hj' : j < (rows.map Value.string).length := (List.getElem?_eq_some_iff.1 hj).1
      obtain ⟨b, off, e, hc⟩ := hl.at_ (by rw [List.length_map] at hj'; omega)
      obtain rfl := Option.some.inj e
      have h1 := hc j hj'
      rw [List.getElem?_eq_getElem hj'] at hj
      rw [Option.some.inj hj] at h1
      have e : (⟨b, off, none⟩ : Addr).add j = ⟨b, off + j, none⟩ := by
        unfold Addr.add
        split
        · rename_i h0; rw [h0]; rfl
        · rfl
      rw [e]; exact h1
    · intro u hu
      obtain ⟨r, -, rfl⟩ := List.mem_map.1 hu
      rfl
theorem totR_append (a b : List ByteArray) : totR (a ++ b) = totR a + totR b := by
  induction a with
  | nil => simp [totR]
  | cons x a ih =>
    have e1 : ∀ l, totR (x :: l) = (1 + x.size) + totR l := fun l => by simp [totR]
    rw [List.cons_append, e1, e1, ih]; omega
def rowD (rows : List ByteArray) (i : Nat) : ByteArray := rows.getD i ByteArray.empty
theorem rowD_get {rows : List ByteArray} {i : Nat} (h : i < rows.length) : rowD rows i = rows[i] := by
  unfold rowD
  rw [List.getD_eq_getElem?_getD, List.getElem?_eq_getElem h]; rfl
def ordR (rows : List ByteArray) (n : Nat) : List ByteArray := (List.range n).flatMap fun i => [rowD rows (rows.length - 1 - i)] ++ (if i % 2 = 0 then [rowD rows i] else [])
theorem ordR_succ (rows : List ByteArray) (n : Nat) : ordR rows (n + 1) = ordR rows n ++ ([rowD rows (rows.length - 1 - n)] ++ (if n % 2 = 0 then [rowD rows n] else [])) := by
  unfold ordR
  rw [List.range_succ, List.flatMap_append]; simp
theorem ordR_len (rows : List ByteArray) : ∀ n, (ordR rows n).length ≤ 2 * n
  | 0 => Nat.le_refl _
  | n + 1 => by
    have ih := ordR_len rows n
    rw [ordR_succ, List.length_append, List.length_append]
    have : (if n % 2 = 0 then [rowD rows n] else []).length ≤ 1 := by split <;> simp
    simp only [List.length_singleton]
    omega
theorem ordR_tot (rows : List ByteArray) : ∀ n, n ≤ rows.length → totR (ordR rows n) ≤ totR (rows.drop (rows.length - n)) + totR (rows.take n)
  | 0, _ => by simp [ordR, totR]
  | n + 1, h => by
    have ih := ordR_tot rows n (by omega)
    have e1 : ∀ (x : ByteArray) l, totR (x :: l) = (1 + x.size) + totR l := fun x l => by simp [totR]
    have hd : rows.drop (rows.length - (n + 1)) = rowD rows (rows.length - 1 - n) :: rows.drop (rows.length - n) := by
      rw [show rows.length - (n + 1) = rows.length - 1 - n by omega, List.drop_eq_getElem_cons (by omega), rowD_get (by omega), show rows.length - 1 - n + 1 = rows.length - n by omega]
    have ht : rows.take (n + 1) = rows.take n ++ [rowD rows n] := by rw [List.take_succ_eq_append_getElem (by omega), rowD_get (by omega)]
    rw [ordR_succ, totR_append, totR_append, hd, e1, ht, totR_append]
    have h0 : totR [] = 0 := rfl
    rw [e1, e1, h0]
    split
    · rw [e1, h0]; omega
    · rw [h0]; omega
theorem ordR_tot2 (rows : List ByteArray) : totR (ordR rows rows.length) ≤ 2 * totR rows := by
  have := ordR_tot rows rows.length (Nat.le_refl _)
  rw [Nat.sub_self, List.drop_zero, List.take_of_length_le (Nat.le_refl _)] at this
  omega
theorem ordR_mem (rows : List ByteArray) (r : ByteArray) : r ∈ ordR rows rows.length ↔ r ∈ rows := by
  unfold ordR
  rw [List.mem_flatMap]
  constructor
  · rintro ⟨i, hi, hr⟩
    have hi := List.mem_range.1 hi
    rcases List.mem_append.1 hr with hr | hr
    · rw [List.mem_singleton, rowD_get (by omega)] at hr
      rw [hr]; exact List.getElem_mem _
    · split at hr
      · rw [List.mem_singleton, rowD_get hi] at hr
        rw [hr]; exact List.getElem_mem _
      · cases hr
  · intro hr
    obtain ⟨k, hk, rfl⟩ := List.getElem_of_mem hr
    refine ⟨rows.length - 1 - k, List.mem_range.2 (by omega), List.mem_append.2 (.inl ?_)⟩
    rw [List.mem_singleton, show rows.length - 1 - (rows.length - 1 - k) = k by omega, rowD_get hk]
theorem ord_load (rows : List ByteArray) (arch : Nat) : loadA (framesL (ordR rows rows.length) arch) = loadA (framesL rows arch) := by
  refine loadA_set (fun y hy => by have := (framesL_sizes _ _ y hy).1; omega) (fun x => ?_)
  unfold framesL
  rw [List.mem_flatMap, List.mem_flatMap]
  constructor
  · rintro ⟨r, hr, h⟩; exact ⟨r, (ordR_mem rows r).1 hr, h⟩
  · rintro ⟨r, hr, h⟩; exact ⟨r, (ordR_mem rows r).2 hr, h⟩
def ordV (rows : List ByteArray) (n : Nat) : List Value := (ordR rows n).map Value.string
theorem ordV_even (rows : List ByteArray) (n : Nat) (h : n % 2 = 0) : ordV rows (n + 1) = ordV rows n ++ [.string (rowD rows (rows.length - 1 - n)), .string (rowD rows n)] ∧ (ordR rows (n + 1)).length = (ordR rows n).length + 1 + 1 := by
  unfold ordV
  rw [ordR_succ, if_pos h]
  simp
theorem ordV_odd (rows : List ByteArray) (n : Nat) (h : ¬ n % 2 = 0) : ordV rows (n + 1) = ordV rows n ++ [.string (rowD rows (rows.length - 1 - n))] ∧ (ordR rows (n + 1)).length = (ordR rows n).length + 1 := by
  unfold ordV
  rw [ordR_succ, if_neg h]
  simp

set_option maxRecDepth 100000 in
set_option maxHeartbeats 6400000 in
theorem lawOrder_any (A : Option Addr) (n cap arch : Nat) (rows : List ByteArray) (w : World) (ha : arch < 4294967296) (hl : Lst w A n cap (rows.map Value.string)) (hz : ∀ s ∈ rows, s.size ≤ maxLen) (hA : A = none → n = 0 ∧ cap = 0) (hE : Env w) :
    Calls Tryd.prog 3 #[.slice A n cap, .int .u32 arch] w fun e w' => e = .returned (.bool true) ∧ Ext w w' := by
  have HW := Lib.hid (fun W (h : Env W) => awake7_any W h)
  have HG := Lib.hid (great_any A n cap rows w hl hz)
  have hlen : n = rows.length := by rw [hl.len, List.length_map]
  have hroom := hl.room
  have hmax := hl.max
  unfold maxLen at hmax
  have HLN := Lib.hid hlen
  have HL := Lib.hid hl
  have HZ := Lib.hid hz
  clear hlen hl hz
  go_enter Tryd.func3, Tryd.ntmps3
  go_wp2_with fail
  refine HG.out.mono ?_
  rintro e w1 ⟨z, rfl, hzz, rfl⟩
  rcases hzz with rfl | ⟨rfl, ht⟩
  · go_wp2_with fail
    refine (HW.out _ hE).mono ?_
    rintro e w1 ⟨rfl, hx⟩
    go_wp2_with fail
    go_ret
    exact ⟨rfl, hx⟩
  have hn8 : n ≤ 8000 := by
    have : ∀ l : List ByteArray, l.length ≤ totR l := by
      intro l
      induction l with
      | nil => exact Nat.zero_le _
      | cons x l ih =>
        have e : totR (x :: l) = (1 + x.size) + totR l := by simp [totR]
        rw [e, List.length_cons]; omega
    have := this rows
    rw [HLN.out]; omega
  go_wp2_with (at_builtin; refine wpList_append_lst (by rfl) (.tmp 17) (.tmp 18) rfl w.heap.size _ 0 [] rfl (own_empty w w.heap.size _ 1 (Nat.le_refl _)) A n cap rows rfl hA ?k2 ?k3 ?k4 ?_)
  case k2 => exact HL.out.ext ((Ext.refl _).alloc _)
  case k3 => omega
  case k4 => simp
  intro va w3 ho3 hg3
  have hx3 : Ext w w3 := ((Ext.refl w).alloc _).grown hg3 (fun k hk => by simp [Value.ownBlock] at hk; omega)
  have HO3 := Lib.hid ho3
  clear ho3 hg3
  go_wp2_with (at_builtin; refine wpList_append_lst (by rfl) (.tmp 19) (.tmp 20) rfl w.heap.size va _ _ rfl HO3.out A n cap rows rfl hA ?m2 ?m3 ?m4 ?_)
  case m2 => exact HL.out.ext hx3
  case m3 => omega
  case m4 => exact hx3.size
  intro vb w4 ho4 hg4
  have hx4 : Ext w w4 := hx3.grown hg4 (fun k hk => (HO3.out.lt k hk).1)
  first | rw [← List.map_append] at ho4 | rw [List.nil_append, ← List.map_append] at ho4
  obtain ⟨A4, c4, rfl, hl4⟩ := Lst.of_own ho4
  have HG2 := Lib.hid (great_any A4 _ c4 (rows ++ rows) w4 hl4 (fun s hs => by
    rcases List.mem_append.1 hs with h | h <;> exact HZ.out s h))
  clear ho4 hg4 hl4 HO3 hx3
  go_wp2_with fail
  refine HG2.out.mono ?_
  rintro e w5 ⟨z2, rfl, hzz, rfl⟩
  rcases hzz with rfl | ⟨rfl, -⟩
  · go_wp2_with fail
    refine (HW.out _ (hE.ext hx4)).mono ?_
    rintro e w6 ⟨rfl, hx6⟩
    go_wp2_with fail
    go_ret
    exact ⟨rfl, hx4.trans hx6⟩
  obtain ⟨i0, hi0, hz0, hz1, hz2⟩ := info_parts strInfo7
  go_wp2_with fail
  go_loopw [5, 6, 29] (fun mv _ iv wr => ∃ i : Nat, iv = .int .i64 i ∧ i ≤ n ∧ wr.ownsRow w4.heap.size 9 1 mv (ordR rows i).length (ordV rows i) ∧ Ext w4 wr) (fun _ _ iv _ => n - (intOf iv).toNat)
  case atStart => exact ⟨0, rfl, Nat.zero_le _, own_empty _ _ _ _ (Nat.le_refl _), (Ext.refl _).alloc _⟩
  case round =>
    obtain ⟨i, rfl, hi, hown, hx⟩ := hrel
    have HO := Lib.hid hown
    have hol := ordR_len rows i
    clear hown
    by_cases hlt : i < n
    · obtain ⟨rb, off, rfl, hcl⟩ := HL.out.at_ (by omega)
      obtain ⟨j, hj⟩ : ∃ j, j = n - 1 - i := ⟨_, rfl⟩
      have hj1 : (n : Int) - 1 - i = (j : Int) := by omega
      have hjn : j < n := by omega
      have HC : Hid (∀ k, k < n → ∀ W, Ext w4 W → W.cell? ⟨rb, off + k, none⟩ = some (.string (rowD rows k))) := by
        intro k hk W hxW
        have hk' : k < rows.length := by have := HLN.out; omega
        have := (hx4.trans hxW).cell (hcl k (by rw [List.length_map]; exact hk'))
        rw [List.getElem_map, ← rowD_get hk'] at this
        exact this
      have hej : rows.length - 1 - i = j := by rw [← HLN.out]; exact hj.symm
      have hcj := HC.out j hjn wr hx
      have hi' := hi
      have hi := hi0
      by_cases hp : i % 2 = 0
      · obtain ⟨hv, hn2⟩ := ordV_even rows i hp
        rw [hej] at hv
        have HV := Lib.hid hv
        have HN2 := Lib.hid hn2
        have hp1 : (i : Int) % 2 = 0 := by omega
        have HCi := Lib.hid (HC.out i hlt)
        clear hv hn2 hp hj hcl hej HC
        generalize ordV rows i = OV at *
        generalize (ordR rows i).length = ol at *
        generalize rowD rows j = X at *
        generalize rowD rows i = Y at *
        go_wp2_with (at_builtin; refine wpList_append_own _ rfl (.tmp 32) (.tmp 41) _ rfl w4.heap.size 9 i0 _ 1 16 Tryd.underlying22 hi hz0 hz1 hz2 rfl (by omega) _ _ _ rfl (HO.out.alloc _) ⟨wr.heap.size, 0, none⟩ 1 1 [.string X] rfl rfl ?c1 ?c2 ?c3 ?c4 ?c5 ?_)
        case c1 =>
          intro j u hu
          match j, hu with
          | 0, hu => simp at hu; subst hu; go_cell
        case c2 =>
          intro u hu
          simp at hu
          subst hu; rfl
        case c3 => unfold maxLen; omega
        case c4 => omega
        case c5 => (have hc5 := hx.size; try simp at hc5); simp; omega
        intro v' w2 hown2 hgr _
        have hx3 := (hx.alloc (.cells #[.string X] 9)).grown hgr (fun k hk => (HO.out.lt k hk).1)
        have HO2 := Lib.hid hown2
        have HG := Lib.hid hgr
        clear hown2 hgr
        have hci := HCi.out _ hx3
        clear hcj
        go_wp2_with (at_builtin; refine wpList_append_own _ rfl (.tmp 46) (.tmp 51) _ rfl w4.heap.size 9 i0 _ 1 16 Tryd.underlying22 hi hz0 hz1 hz2 rfl (by omega) _ _ _ rfl (HO2.out.alloc _) ⟨w2.heap.size, 0, none⟩ 1 1 [.string Y] rfl rfl ?d1 ?d2 ?d3 ?d4 ?d5 ?_)
        case d1 =>
          intro j u hu
          match j, hu with
          | 0, hu => simp at hu; subst hu; go_cell
        case d2 =>
          intro u hu
          simp at hu
          subst hu; rfl
        case d3 => unfold maxLen; omega
        case d4 => omega
        case d5 => (have hc5 := hx3.size; try simp at hc5); simp; omega
        intro v' w2 hown2 hgr _
        have hx3 := (hx3.alloc (.cells #[.string Y] 9)).grown hgr (fun k hk => (HO2.out.lt k hk).1)
        have HO2 := Lib.hid hown2
        have HG := Lib.hid hgr
        clear hown2 hgr
        go_wp2_with fail
        go_roundw
        case rel => exact ⟨i + 1, by go_num, by omega, by rw [HV.out, HN2.out]; first | exact HO2.out | simpa using HO2.out, hx3⟩
        case measure => simp [intOf]; omega
      · obtain ⟨hv, hn2⟩ := ordV_odd rows i hp
        rw [hej] at hv
        have HV := Lib.hid hv
        have HN2 := Lib.hid hn2
        have hp1 : (i : Int) % 2 = 1 := by omega
        clear hv hn2 hp hj hcl hej HC
        generalize ordV rows i = OV at *
        generalize (ordR rows i).length = ol at *
        generalize rowD rows j = X at *
        go_wp2_with (at_builtin; refine wpList_append_own _ rfl (.tmp 32) (.tmp 41) _ rfl w4.heap.size 9 i0 _ 1 16 Tryd.underlying22 hi hz0 hz1 hz2 rfl (by omega) _ _ _ rfl (HO.out.alloc _) ⟨wr.heap.size, 0, none⟩ 1 1 [.string X] rfl rfl ?e1 ?e2 ?e3 ?e4 ?e5 ?_)
        case e1 =>
          intro j u hu
          match j, hu with
          | 0, hu => simp at hu; subst hu; go_cell
        case e2 =>
          intro u hu
          simp at hu
          subst hu; rfl
        case e3 => unfold maxLen; omega
        case e4 => omega
        case e5 => (have hc5 := hx.size; try simp at hc5); simp; omega
        intro v' w2 hown2 hgr _
        have hx3 := (hx.alloc (.cells #[.string X] 9)).grown hgr (fun k hk => (HO.out.lt k hk).1)
        have HO2 := Lib.hid hown2
        have HG := Lib.hid hgr
        clear hown2 hgr
        go_wp2_with fail
        go_roundw
        case rel => exact ⟨i + 1, by go_num, by omega, by rw [HV.out, HN2.out]; first | exact HO2.out | simpa using HO2.out, hx3⟩
        case measure => simp [intOf]; omega
    · obtain rfl : i = n := by omega
      have hx04 := hx4.trans hx
      have hE2 := hE.ext hx04
      obtain ⟨Am, cm, rfl, hlm⟩ := Lst.of_own HO.out
      have hsm : ∀ s ∈ rows, s.size ≤ 1000000000 := fun s hs => by have := tot_mem hs; omega
      have hfl := framesL_len rows arch
      have hor : i = rows.length := HLN.out
      have hfl2 := framesL_len (ordR rows i) arch
      have hot : totR (ordR rows i) ≤ 2 * totR rows := by rw [hor]; exact ordR_tot2 rows
      have hsm2 : ∀ s ∈ ordR rows i, s.size ≤ 1000000000 := fun s hs => by
        rw [hor] at hs
        exact hsm s ((ordR_mem rows s).1 hs)
      have HP := Lib.hid (fun W (hxW : Ext wr W) => load_any A i cap arch rows W (hE2.ext hxW) ha (HL.out.ext (hx04.trans hxW)) hsm (by omega))
      have HR := Lib.hid (fun W (hxW : Ext wr W) => load_any Am (ordR rows i).length cm arch (ordR rows i) W (hE2.ext hxW) ha (hlm.ext hxW) hsm2 (by omega))
      have hord : loadA (framesL (ordR rows i) arch) = loadA (framesL rows arch) := by rw [hor]; exact ord_load rows arch
      rw [hord] at HR
      generalize loadA (framesL rows arch) = R at *
      obtain ⟨S0, M, Z⟩ := R
      simp only at HP HR
      generalize BA S0 = S at *
      have hss : (S.toList == S.toList) = true := beq_self_eq_true _
      have hZZ : (Z == Z) = true := beq_self_eq_true _
      generalize (ordR rows i).length = ol at *
      clear HG HG2 hsm hsm2 hfl hfl2 hot hor hord HO hlm HLN HZ HL ht hol
      go_wp2_with fail
      refine (HP.out _ (Ext.refl _)).mono ?_
      rintro e w6 ⟨v1, rfl, ho1, hx6⟩
      obtain ⟨A1, c1, rfl, hl1⟩ := Lst.of_own ho1
      have HL1 := Lib.hid hl1
      clear ho1 hl1
      go_wp2_with fail
      refine (HR.out _ hx6).mono ?_
      rintro e w7 ⟨v2, rfl, ho2, hx7⟩
      obtain ⟨A2, c2, rfl, hl2⟩ := Lst.of_own ho2
      have HS := Lib.hid (rsameInts_any A1 A2 M.length c1 c2 M w7 (HL1.out.ext hx7) hl2)
      have hx07 := (hx04.trans hx6).trans hx7
      clear ho2 hl2
      go_wp2_with fail
      refine HS.out.mono ?_
      rintro e w8 ⟨rfl, hx8⟩
      have hx08 := hx07.trans hx8
      go_wp2_with fail
      refine (HW.out _ (hE.ext hx08)).mono ?_
      rintro e w9 ⟨rfl, hx9⟩
      go_wp2_with fail
      go_ret
      exact ⟨rfl, hx08.trans hx9⟩
end Go.Proofs.YtlkiaeelnbjchaaDoor
