/- The contracts of the reference of layer 18, third part: join, address, fault. -/
import Derived.Test.YtimegcnpembhkaaDoorAsmRef2
import Derived.Test.YtimegcnpembhkaaDoorAsmAsm
namespace Go.Proofs.YtimegcnpembhkaaDoor
open Go.RowKit
open Go.Lib hiding intOf
set_option linter.unusedVariables false

set_option maxRecDepth 100000 in
theorem rJoin_any (t m : ByteArray) (w : World) (hs : (t.size : Int) ≤ 100000000000) (hm : (m.size : Int) ≤ 1000000) :
    Calls Tryd.prog 62 #[.string t, .string m] w fun e w' => e = .returned (.string (BA (glue t.data.toList m.data.toList))) ∧ w = w' := by
  obtain ⟨R, hR⟩ : ∃ R, R = BA (glue t.data.toList m.data.toList) := ⟨_, rfl⟩
  rw [← hR]
  have plain : glue t.data.toList m.data.toList = t.data.toList ++ m.data.toList → R = t ++ m := by
    intro e
    rw [hR, e]
    exact bytes_inj (by rw [BA_data]; simp)
  by_cases h0 : t.size = 0
  · have h1 := empty_of_size h0
    have hq : Hid (R = t ++ m) := plain (by
      unfold glue
      rw [if_neg]
      rw [List.eq_nil_of_length_eq_zero (show t.data.toList.length = 0 from h0)]
      simp [lastB, isDig])
    clear hR plain h0
    go_enter Tryd.func62, Tryd.ntmps62
    go_wp2_with fail
    go_ret
    exact ⟨ret_str hq.out.symm, rfl⟩
  have n1 : (t.toList == []) = false := by simpa using ne_of_size h0
  have n1' := ne_of_size h0
  by_cases h2 : m.size = 0
  · have h3 := empty_of_size h2
    have hq : Hid (R = t ++ m) := plain (by
      unfold glue
      rw [if_neg]
      rw [List.eq_nil_of_length_eq_zero (show m.data.toList.length = 0 from h2)]
      simp [headB, isDig])
    clear hR plain h2
    go_enter Tryd.func62, Tryd.ntmps62
    go_wp2_with fail
    go_ret
    exact ⟨ret_str hq.out.symm, rfl⟩
  have n2 : (m.toList == []) = false := by simpa using ne_of_size h2
  have n2' := ne_of_size h2
  have p1 : 1 ≤ t.size := by omega
  have p2 : 1 ≤ m.size := by omega
  have e1 := last_snoc t p1
  have e2 := head_get m p2
  have hD1 := fun W => rDigit_any t[t.size - 1] W
  have hD2 := fun W => rDigit_any m[0] W
  unfold glue at hR plain
  rw [e1, e2] at hR plain
  clear h0 h2 e1 e2
  cases hc1 : isDig t[t.size - 1] with
  | false =>
    have hq : Hid (R = t ++ m) := plain (by rw [hc1]; rfl)
    rw [hc1] at hD1
    have D1 := Lib.hid hD1
    clear hR plain hD1 hD2 hc1
    go_enter Tryd.func62, Tryd.ntmps62
    go_wp2_with fail
    refine (D1.out _).mono ?_
    rintro e w1 ⟨rfl, rfl⟩
    go_wp2_with fail
    go_ret
    exact ⟨ret_str hq.out.symm, rfl⟩
  | true =>
    rw [hc1] at hD1
    have D1 := Lib.hid hD1
    cases hc2 : isDig m[0] with
    | false =>
      have hq : Hid (R = t ++ m) := plain (by rw [hc1, hc2]; rfl)
      rw [hc2] at hD2
      have D2 := Lib.hid hD2
      clear hR plain hD1 hD2 hc1 hc2
      go_enter Tryd.func62, Tryd.ntmps62
      go_wp2_with fail
      refine (D1.out _).mono ?_
      rintro e w1 ⟨rfl, rfl⟩
      go_wp2_with fail
      refine (D2.out _).mono ?_
      rintro e w1 ⟨rfl, rfl⟩
      go_wp2_with fail
      go_ret
      exact ⟨ret_str hq.out.symm, rfl⟩
    | true =>
      have hq : Hid (R = t ++ ⟨#[32]⟩ ++ m) := by
        show _ = _
        rw [hR, hc1, hc2]
        exact bytes_inj (by rw [BA_data]; simp)
      rw [hc2] at hD2
      have D2 := Lib.hid hD2
      clear hR plain hD1 hD2 hc1 hc2
      go_enter Tryd.func62, Tryd.ntmps62
      go_wp2_with fail
      refine (D1.out _).mono ?_
      rintro e w1 ⟨rfl, rfl⟩
      go_wp2_with fail
      refine (D2.out _).mono ?_
      rintro e w1 ⟨rfl, rfl⟩
      go_wp2_with fail
      go_ret
      exact ⟨ret_str hq.out.symm, rfl⟩

/-- the address of the first label of a name -/
def lookF : List Lab → Bytes → Int
  | [], _ => 0
  | x :: r, n => if x.1 = n then x.2 else lookF r n

theorem str_beq (a b : Bytes) : ((BA a).toList == (BA b).toList) = decide (a = b) := by
  rw [Bool.eq_iff_iff, beq_iff_eq, decide_eq_true_iff, ByteArray.toList_eq, ByteArray.toList_eq]
  exact Iff.rfl

set_option maxRecDepth 100000 in
theorem rAddress_any (A : Option Addr) (n cap : Nat) (l : List Lab) (nm : Bytes) (w : World) (hl : HLst w A n cap (l.map labH)) :
    Calls Tryd.prog 64 #[.slice A n cap, .string (BA nm)] w fun e w' => e = .returned (.int .i64 (lookF l nm)) ∧ w = w' := by
  have hlen : n = l.length := by simpa using hl.len
  have hroom := hl.room
  have hmax := hl.max
  unfold maxLen at hmax
  obtain ⟨R, hR⟩ : ∃ R, R = lookF l nm := ⟨_, rfl⟩
  rw [← hR]
  have HR := Lib.hid hR
  have HL := Lib.hid hlen
  have HH := Lib.hid hl
  clear hlen hl hR
  have hsb := fun a => str_beq a nm
  generalize BA nm = S at *
  have HSB := Lib.hid hsb
  clear hsb
  go_enter Tryd.func64, Tryd.ntmps64
  go_wp2_with fail
  go_loop [5] (fun i => ∃ k : Nat, k ≤ n ∧ i = .int .i64 k ∧ lookF (l.drop k) nm = R) (fun i => n - (intOf i).toNat)
  case atStart => exact ⟨0, Nat.zero_le _, rfl, HR.out.symm⟩
  case round =>
    obtain ⟨k, hk, rfl, hlk⟩ := hrel
    by_cases hlt : k < n
    · obtain ⟨b, off, rfl, hc⟩ := HH.out.at_ (by omega)
      have hkl : k < l.length := by have := HL.out; omega
      have hc1 := (hc k (by rw [List.length_map]; exact hkl)).1
      have hc2 := (hc k (by rw [List.length_map]; exact hkl)).2
      rw [List.getElem_map] at hc1 hc2
      have hsb := HSB.out l[k].1
      have hst : (if l[k].1 = nm then l[k].2 else lookF (l.drop (k + 1)) nm) = R := by
        rw [← hlk, List.drop_eq_getElem_cons hkl]; rfl
      generalize l[k] = x at *
      unfold labH at hc1 hc2
      simp only at hc1 hc2
      have HC := Lib.hid hc
      clear hc hlk
      by_cases hx : x.1 = nm
      · have hfin : Hid (x.2 = R) := by show _ = _; rw [← hst, if_pos hx]
        rw [decide_eq_true hx] at hsb
        clear hst hx
        generalize BA x.1 = xs at *
        obtain ⟨x1, x2⟩ := x
        simp only at *
        go_wp2_with fail
        go_ret
        exact ⟨ret_int hfin.out, rfl⟩
      · have hnx : Hid (lookF (l.drop (k + 1)) nm = R) := by show _ = _; rw [← hst, if_neg hx]
        rw [decide_eq_false hx] at hsb
        clear hst hx
        generalize BA x.1 = xs at *
        obtain ⟨x1, x2⟩ := x
        simp only at *
        go_wp2_with fail
        go_round
        case rel => exact ⟨k + 1, by omega, by go_num, hnx.out⟩
        case measure => simp [intOf]; omega
    · obtain rfl : k = n := by omega
      have hfin : Hid (0 = R) := by
        show _ = _
        rw [← hlk, List.drop_of_length_le (by have := HL.out; omega)]; rfl
      clear hlk
      go_wp2_with fail
      go_ret
      exact ⟨ret_int hfin.out, rfl⟩

/-- the error of a token: D the names that are defined, M those that are defined before it -/
def faultA (D M : Bytes → Bool) (t : Tok) : Int := match defN t.1 with
  | some n => if M n = true then 8 else 0
  | none => match refN t.1 with
    | some n => if D n = true then 0 else 7
    | none => if codeB t.1 = true then 0 else 3

theorem defd_snoc_at (l : List Tok) (k : Nat) (h : k < l.length) (n : Bytes) : defd (l.take (k + 1)) n = (defd (l.take k) n || decide (defN l[k].1 = some n)) := by
  unfold defd
  rw [List.take_succ_eq_append_getElem h, List.any_append, List.any_cons, List.any_nil, Bool.or_false]

theorem rCodeT_any (t : Tok) (W : World) (h1 : t.1.length ≤ 100000) (h2 : t.1 ≠ []) :
    Calls Tryd.prog 61 #[.string (BA t.1)] W fun e w' => e = .returned (.bool (codeB t.1)) ∧ W = w' := by
  have h := rCode_any (BA t.1) W (by rw [BA_size]; unfold maxLen; omega)
  have e : codeR (BA t.1).data.toList = codeB t.1 := by
    unfold codeR
    rw [BA_data, decide_eq_true h2]
    rfl
  rwa [e] at h

set_option maxHeartbeats 4000000 in
set_option maxRecDepth 100000 in
theorem rFault_any (A : Option Addr) (n cap : Nat) (l : List Tok) (w : World) (q : Nat) (hq : q < n) (t : Tok) (ht : l[q]? = some t) (hl : HLst w A n cap (l.map tokH)) (hf : Fits2 l) (hn : n ≤ 100000) :
    Calls Tryd.prog 31 #[.slice A n cap, .int .i64 q] w fun e w' => e = .returned (.int .i64 (faultA (defd l) (defd (l.take q)) t)) ∧ w = w' := by
  have hlen : n = l.length := by simpa using hl.len
  have hroom := hl.room
  have hmax := hl.max
  unfold maxLen at hmax
  have hql : q < l.length := by omega
  have htm : t ∈ l := List.mem_of_getElem? ht
  have htq : l[q] = t := by rw [List.getElem?_eq_getElem hql] at ht; injection ht
  obtain ⟨b, off, rfl, hc⟩ := hl.at_ (by omega)
  have hq1 := (hc q (by rw [List.length_map]; exact hql)).1
  rw [List.getElem_map, htq] at hq1
  unfold tokH at hq1
  simp only at hq1
  obtain ⟨R, hR⟩ : ∃ R, R = faultA (defd l) (defd (l.take q)) t := ⟨_, rfl⟩
  rw [← hR]
  unfold faultA at hR
  have ht2 := hf t htm
  have hts : (BA t.1).size ≤ maxLen := by rw [BA_size]; unfold maxLen; omega
  have hdef := fun W => rDefines_any (BA t.1) W hts
  have hrf := fun W => rRefers_any (BA t.1) W hts
  have hcd := fun W => rCodeT_any t W ht2.1 ht2.2
  rw [BA_data] at hdef hrf
  have hdk : ∀ k (h : k < l.length) W, Calls Tryd.prog 59 #[.string (BA l[k].1)] W fun e w' => e = .returned (defV l[k].1) ∧ W = w' := by
    intro k h W
    have := rDefines_any (BA l[k].1) W (by rw [BA_size]; have := (hf l[k] (List.getElem_mem h)).1; unfold maxLen; omega)
    rwa [BA_data] at this
  have HDK := Lib.hid hdk
  have HC := Lib.hid hc
  have HL := Lib.hid hlen
  clear hdk hc hlen hl ht htq htm hf
  cases hd : defN t.1 with
  | some m =>
    rw [hd] at hR
    simp only at hR
    unfold defV at hdef
    rw [hd] at hdef
    simp only at hdef
    have D := Lib.hid hdef
    have HR := Lib.hid hR
    have hsb := fun a => str_beq a m
    have HSB := Lib.hid hsb
    clear hdef hR hrf hcd hd hsb ht2 hts
    generalize BA t.1 = s at *
    generalize BA m = sm at *
    go_enter Tryd.func31, Tryd.ntmps31
    go_wp2_with fail
    refine (D.out _).mono ?_
    rintro e w1 ⟨rfl, rfl⟩
    go_wp2_with fail
    go_loop [7, 8, 9, 28] (fun i o tt pp => ∃ k : Nat, k ≤ q ∧ i = .int .i64 k ∧ defd (l.take k) m = false) (fun i _ _ _ => q - (intOf i).toNat)
    case atStart => exact ⟨0, Nat.zero_le _, rfl, rfl⟩
    case round =>
      obtain ⟨k, hk, rfl, hno⟩ := hrel
      by_cases hlt : k < q
      · have hkl : k < l.length := by omega
        have hc1 := (HC.out k (by rw [List.length_map]; exact hkl)).1
        rw [List.getElem_map] at hc1
        unfold tokH at hc1
        simp only at hc1
        have hD := HDK.out k hkl
        have hsn := defd_snoc_at l k hkl m
        have hyes : defd (l.take (k + 1)) m = true → defd (l.take q) m = true := by
          intro h
          unfold defd at h ⊢
          rw [List.any_eq_true] at h ⊢
          obtain ⟨x, hx, hx2⟩ := h
          exact ⟨x, (List.take_prefix_take_left (by omega)).subset hx, hx2⟩
        rw [hno, Bool.false_or] at hsn
        generalize l[k] = x at *
        unfold defV at hD
        cases hd2 : defN x.1 with
        | some m2 =>
          rw [hd2] at hD hsn
          simp only at hD
          have hs2 := HSB.out m2
          have D2 := Lib.hid hD
          by_cases hm : m2 = m
          · have hfin : Hid (8 = R) := by
              show _ = _
              rw [HR.out, if_pos (hyes (by rw [hsn, hm]; simp))]
            rw [decide_eq_true hm] at hs2
            clear hD hd2 hsn hyes hno hm
            generalize BA x.1 = xs at *
            generalize BA m2 = sm2 at *
            go_wp2_with fail
            refine (D2.out _).mono ?_
            rintro e w1 ⟨rfl, rfl⟩
            go_wp2_with fail
            go_ret
            exact ⟨ret_int hfin.out, rfl⟩
          · have hnx : Hid (defd (l.take (k + 1)) m = false) := by show _ = _; rw [hsn]; simp [hm]
            rw [decide_eq_false hm] at hs2
            clear hD hd2 hsn hyes hno hm
            generalize BA x.1 = xs at *
            generalize BA m2 = sm2 at *
            go_wp2_with fail
            refine (D2.out _).mono ?_
            rintro e w1 ⟨rfl, rfl⟩
            go_wp2_with fail
            go_round
            case rel => exact ⟨k + 1, by omega, by go_num, hnx.out⟩
            case measure => simp [intOf]; omega
        | none =>
          rw [hd2] at hD hsn
          simp only at hD
          have D2 := Lib.hid hD
          have hnx : Hid (defd (l.take (k + 1)) m = false) := by show _ = _; rw [hsn]; simp
          clear hD hd2 hsn hyes hno
          generalize BA x.1 = xs at *
          go_wp2_with fail
          refine (D2.out _).mono ?_
          rintro e w1 ⟨rfl, rfl⟩
          go_wp2_with fail
          go_round
          case rel => exact ⟨k + 1, by omega, by go_num, hnx.out⟩
          case measure => simp [intOf]; omega
      · obtain rfl : k = q := by omega
        have hfin : Hid (0 = R) := by show _ = _; rw [HR.out, hno]; rfl
        clear hno
        go_wp2_with fail
        go_ret
        exact ⟨ret_int hfin.out, rfl⟩
  | none =>
    rw [hd] at hR
    simp only at hR
    unfold defV at hdef
    rw [hd] at hdef
    simp only at hdef
    have D := Lib.hid hdef
    clear hdef hd
    cases hr : refN t.1 with
    | some m =>
      rw [hr] at hR
      simp only at hR
      unfold refV at hrf
      rw [hr] at hrf
      simp only at hrf
      have RF := Lib.hid hrf
      have HR := Lib.hid hR
      have hsb := fun a => str_beq a m
      have HSB := Lib.hid hsb
      clear hR hrf hcd hr hsb ht2 hts
      generalize BA t.1 = s at *
      generalize BA m = sm at *
      go_enter Tryd.func31, Tryd.ntmps31
      go_wp2_with fail
      refine (D.out _).mono ?_
      rintro e w1 ⟨rfl, rfl⟩
      go_wp2_with fail
      refine (RF.out _).mono ?_
      rintro e w1 ⟨rfl, rfl⟩
      go_wp2_with fail
      go_loop [10, 11, 12, 59] (fun i o tt pp => ∃ k : Nat, k ≤ n ∧ i = .int .i64 k ∧ defd (l.take k) m = false) (fun i _ _ _ => n - (intOf i).toNat)
      case atStart => exact ⟨0, Nat.zero_le _, rfl, rfl⟩
      case round =>
        obtain ⟨k, hk, rfl, hno⟩ := hrel
        by_cases hlt : k < n
        · have hkl : k < l.length := by have := HL.out; omega
          have hc1 := (HC.out k (by rw [List.length_map]; exact hkl)).1
          rw [List.getElem_map] at hc1
          unfold tokH at hc1
          simp only at hc1
          have hD := HDK.out k hkl
          have hsn := defd_snoc_at l k hkl m
          have hyes : defd (l.take (k + 1)) m = true → defd l m = true := by
            intro h
            unfold defd at h ⊢
            rw [List.any_eq_true] at h ⊢
            obtain ⟨x, hx, hx2⟩ := h
            exact ⟨x, List.mem_of_mem_take hx, hx2⟩
          rw [hno, Bool.false_or] at hsn
          generalize l[k] = x at *
          unfold defV at hD
          cases hd2 : defN x.1 with
          | some m2 =>
            rw [hd2] at hD hsn
            simp only at hD
            have hs2 := HSB.out m2
            have D2 := Lib.hid hD
            by_cases hm : m2 = m
            · have hfin : Hid (0 = R) := by
                show _ = _
                rw [HR.out, if_pos (hyes (by rw [hsn, hm]; simp))]
              rw [decide_eq_true hm] at hs2
              clear hD hd2 hsn hyes hno hm
              generalize BA x.1 = xs at *
              generalize BA m2 = sm2 at *
              go_wp2_with fail
              refine (D2.out _).mono ?_
              rintro e w1 ⟨rfl, rfl⟩
              go_wp2_with fail
              go_ret
              exact ⟨ret_int hfin.out, rfl⟩
            · have hnx : Hid (defd (l.take (k + 1)) m = false) := by show _ = _; rw [hsn]; simp [hm]
              rw [decide_eq_false hm] at hs2
              clear hD hd2 hsn hyes hno hm
              generalize BA x.1 = xs at *
              generalize BA m2 = sm2 at *
              go_wp2_with fail
              refine (D2.out _).mono ?_
              rintro e w1 ⟨rfl, rfl⟩
              go_wp2_with fail
              go_round
              case rel => exact ⟨k + 1, by omega, by go_num, hnx.out⟩
              case measure => simp [intOf]; omega
          | none =>
            rw [hd2] at hD hsn
            simp only at hD
            have D2 := Lib.hid hD
            have hnx : Hid (defd (l.take (k + 1)) m = false) := by show _ = _; rw [hsn]; simp
            clear hD hd2 hsn hyes hno
            generalize BA x.1 = xs at *
            go_wp2_with fail
            refine (D2.out _).mono ?_
            rintro e w1 ⟨rfl, rfl⟩
            go_wp2_with fail
            go_round
            case rel => exact ⟨k + 1, by omega, by go_num, hnx.out⟩
            case measure => simp [intOf]; omega
        · obtain rfl : k = n := by omega
          have hfin : Hid (7 = R) := by
            show _ = _
            rw [List.take_of_length_le (by have := HL.out; omega)] at hno
            rw [HR.out, hno]; rfl
          clear hno
          go_wp2_with fail
          go_ret
          exact ⟨ret_int hfin.out, rfl⟩
    | none =>
      rw [hr] at hR
      simp only at hR
      unfold refV at hrf
      rw [hr] at hrf
      simp only at hrf
      have RF := Lib.hid hrf
      clear hrf hr ht2 hts
      cases hcb : codeB t.1 with
      | true =>
        have hfin : Hid (0 = R) := by show _ = _; rw [hR, hcb]; rfl
        rw [hcb] at hcd
        have CD := Lib.hid hcd
        clear hR hcd hcb
        generalize BA t.1 = s at *
        go_enter Tryd.func31, Tryd.ntmps31
        go_wp2_with fail
        refine (D.out _).mono ?_
        rintro e w1 ⟨rfl, rfl⟩
        go_wp2_with fail
        refine (RF.out _).mono ?_
        rintro e w1 ⟨rfl, rfl⟩
        go_wp2_with fail
        refine (CD.out _).mono ?_
        rintro e w1 ⟨rfl, rfl⟩
        go_wp2_with fail
        go_ret
        exact ⟨ret_int hfin.out, rfl⟩
      | false =>
        have hfin : Hid (3 = R) := by show _ = _; rw [hR, hcb]; rfl
        rw [hcb] at hcd
        have CD := Lib.hid hcd
        clear hR hcd hcb
        generalize BA t.1 = s at *
        go_enter Tryd.func31, Tryd.ntmps31
        go_wp2_with fail
        refine (D.out _).mono ?_
        rintro e w1 ⟨rfl, rfl⟩
        go_wp2_with fail
        refine (RF.out _).mono ?_
        rintro e w1 ⟨rfl, rfl⟩
        go_wp2_with fail
        refine (CD.out _).mono ?_
        rintro e w1 ⟨rfl, rfl⟩
        go_wp2_with fail
        go_ret
        exact ⟨ret_int hfin.out, rfl⟩
end Go.Proofs.YtimegcnpembhkaaDoor
