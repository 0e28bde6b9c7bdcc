/- The contracts of the reference of layer 18, second part: code, definitions, references, six digits, join, address. -/
import Derived.Test.YtimegcnpembhkaaDoorAsmRef1
import Derived.Test.YtimegcnpembhkaaDoorAsmAsm
namespace Go.Proofs.YtimegcnpembhkaaDoor
open Go.RowKit
open Go.Lib hiding intOf
set_option linter.unusedVariables false

/-- is it code (and not empty) -/
def codeR (s : Bytes) : Bool := decide (s ≠ []) && codeB s
theorem rCode_any (s : ByteArray) (w : World) (hs : s.size ≤ maxLen) :
    Calls Tryd.prog 61 #[.string s] w fun e w' => e = .returned (.bool (codeR s.data.toList)) ∧ w = w' := by
  unfold maxLen at hs
  obtain ⟨r, hr⟩ : ∃ r, r = codeR s.data.toList := ⟨_, rfl⟩
  rw [← hr]
  have HR := Lib.hid hr
  clear hr
  go_enter Tryd.func61, Tryd.ntmps61
  go_wp2_with fail
  go_loop [3] (fun i => ∃ k : Nat, k ≤ s.size ∧ i = .int .i64 k ∧ (s.data.toList.take k).all isCd = true) (fun i => s.size - (intOf i).toNat)
  case atStart => exact ⟨0, Nat.zero_le _, rfl, rfl⟩
  case round =>
    obtain ⟨k, hk, rfl, hok⟩ := hrel
    have HK := Lib.hid hok
    clear hok
    by_cases hlt : k < s.size
    · have hst : Hid ((s.data.toList.take (k + 1)).all isCd = (isSgn s[k] || isDig s[k])) := by
        show _ = _
        rw [take_snoc s k hlt, List.all_append, HK.out]
        simp [isCd]
      have hstop : Hid ((s.data.toList.take (k + 1)).all isCd = false → r = false) := by
        intro h
        rw [HR.out]
        unfold codeR codeB
        rw [Bool.and_eq_false_iff]
        right
        rw [List.all_eq_false] at h ⊢
        obtain ⟨x, hx, hx2⟩ := h
        exact ⟨x, List.mem_of_mem_take hx, hx2⟩
      have hD := fun W => rDigit_any s[k] W
      have hS := fun W => rSign_any s[k] W
      cases hd : isDig s[k] with
      | true =>
        have hnx : Hid ((s.data.toList.take (k + 1)).all isCd = true) := by show _ = _; rw [hst.out, hd, Bool.or_true]
        rw [hd] at hD
        have D := Lib.hid hD
        clear hD hS hd
        go_wp2_with fail
        refine (D.out _).mono ?_
        rintro e w1 ⟨rfl, rfl⟩
        go_wp2_with fail
        go_round
        case rel => exact ⟨k + 1, by omega, by go_num, hnx.out⟩
        case measure => simp [intOf]; omega
      | false =>
        rw [hd] at hD
        have D := Lib.hid hD
        cases hg : isSgn s[k] with
        | true =>
          have hnx : Hid ((s.data.toList.take (k + 1)).all isCd = true) := by show _ = _; rw [hst.out, hg]; rfl
          rw [hg] at hS
          have S := Lib.hid hS
          clear hD hS hd hg
          go_wp2_with fail
          refine (D.out _).mono ?_
          rintro e w1 ⟨rfl, rfl⟩
          go_wp2_with fail
          refine (S.out _).mono ?_
          rintro e w1 ⟨rfl, rfl⟩
          go_wp2_with fail
          go_round
          case rel => exact ⟨k + 1, by omega, by go_num, hnx.out⟩
          case measure => simp [intOf]; omega
        | false =>
          have hfin : Hid (r = false) := hstop.out (by rw [hst.out, hg, hd]; rfl)
          rw [hg] at hS
          have S := Lib.hid hS
          clear hD hS hd hg
          go_wp2_with fail
          refine (D.out _).mono ?_
          rintro e w1 ⟨rfl, rfl⟩
          go_wp2_with fail
          refine (S.out _).mono ?_
          rintro e w1 ⟨rfl, rfl⟩
          go_wp2_with fail
          go_ret
          exact ⟨ret_bool hfin.out.symm, rfl⟩
    · obtain rfl : k = s.size := by omega
      have hfin : Hid (r = decide (s.data.toList ≠ [])) := by
        show _ = _
        have := HK.out
        rw [List.take_of_length_le (show s.data.toList.length ≤ s.size from Nat.le_refl _)] at this
        rw [HR.out]
        unfold codeR codeB
        rw [this, Bool.and_true]
      by_cases h0 : s.size = 0
      · have h1 := empty_of_size h0
        have hf2 : Hid (r = false) := by show _ = _; rw [hfin.out, List.eq_nil_of_length_eq_zero (show s.data.toList.length = 0 from h0)]; rfl
        clear h0
        go_wp2_with fail
        go_ret
        exact ⟨ret_bool (by rw [hf2.out]), rfl⟩
      · have h1 : (s.toList == []) = false := by simpa using ne_of_size h0
        have h1' := ne_of_size h0
        have hf2 : Hid (r = true) := by
          show _ = _
          rw [hfin.out, decide_eq_true_iff]
          intro e
          exact h0 (by have : s.size = s.data.toList.length := rfl; rw [this, e]; rfl)
        clear h0
        go_wp2_with fail
        go_ret
        exact ⟨ret_bool (by rw [hf2.out]), rfl⟩

theorem extract_drop (s : ByteArray) (k : Nat) : (s.extract k s.size).data.toList = s.data.toList.drop k := by
  simp only [ByteArray.data_extract, Array.toList_extract, List.extract_eq_take_drop]
  rw [List.take_of_length_le]
  rw [List.length_drop]
  exact Nat.le_refl _
theorem extract_take (s : ByteArray) (k : Nat) : (s.extract 0 k).data.toList = s.data.toList.take k := by
  simp only [ByteArray.data_extract, Array.toList_extract, List.extract_eq_take_drop]
  simp
theorem last_int {s : ByteArray} (h : 0 < s.size) (c : UInt8) : ((((s[s.size - 1]).toNat : Nat) : Int) != ((c.toNat : Nat) : Int)) = !decide (s.data.toList.getLast? = some c) := by
  have hl : s.data.toList.length = s.size := rfl
  have e : s.data.toList.getLast? = some s[s.size - 1] := by
    rw [List.getLast?_eq_getElem?, hl, List.getElem?_eq_getElem (by omega)]; rfl
  rw [e]
  by_cases hc : s[s.size - 1] = c
  · rw [hc]; simp
  · rw [u8_ne _ _ hc, decide_eq_false (by simpa using hc)]; rfl

/-- what the reference says of a definition -/
def defV (s : Bytes) : Value := match defN s with
  | some m => .tuple #[.string (BA m), .bool true]
  | none => .tuple #[.string ⟨#[]⟩, .bool false]
def refV (s : Bytes) : Value := match refN s with
  | some m => .tuple #[.string (BA m), .bool true]
  | none => .tuple #[.string ⟨#[]⟩, .bool false]

theorem rDefines_any (s : ByteArray) (w : World) (hs : s.size ≤ maxLen) :
    Calls Tryd.prog 59 #[.string s] w fun e w' => e = .returned (defV s.data.toList) ∧ w = w' := by
  unfold defV
  by_cases h0 : s.size = 0
  · have h1 := empty_of_size h0
    have hd : defN s.data.toList = none := by rw [List.eq_nil_of_length_eq_zero (show s.data.toList.length = 0 from h0)]; rfl
    rw [hd]
    clear hd h0
    go_enter Tryd.func59, Tryd.ntmps59
    go_wp2_with fail
    go_ret2
    exact ⟨rfl, rfl⟩
  · have h1 : (s.toList == []) = false := by simpa using ne_of_size h0
    have h1' := ne_of_size h0
    have hpos : 0 < s.size := by omega
    have hli := last_int hpos 58
    have hxs : (s.extract 0 (s.size - 1)).data.toList = s.data.toList.dropLast := by
      rw [extract_take, List.dropLast_eq_take]; rfl
    have hxz : (s.extract 0 (s.size - 1)).size ≤ maxLen := by rw [ByteArray.size_extract]; omega
    have hnm := fun W => rName_any (s.extract 0 (s.size - 1)) W hxz
    rw [hxs] at hnm
    unfold maxLen at hs
    by_cases hl : s.data.toList.getLast? = some 58
    · have hq : ((((s[s.size - 1]).toNat : Nat) : Int) != 58) = false := by rw [decide_eq_true hl] at hli; exact hli
      cases hn : nameB s.data.toList.dropLast with
      | true =>
        have hd : defN s.data.toList = some s.data.toList.dropLast := by unfold defN; rw [if_pos ⟨hl, hn⟩]
        have hba : BA s.data.toList.dropLast = s.extract 0 (s.size - 1) := bytes_inj (by rw [BA_data, hxs])
        rw [hd]
        simp only
        rw [hba]
        rw [hn] at hnm
        have HN := Lib.hid hnm
        clear hnm hn hd hba hxs hxz hl hli h0
        go_enter Tryd.func59, Tryd.ntmps59
        go_wp2_with fail
        refine (HN.out _).mono ?_
        rintro e w1 ⟨rfl, rfl⟩
        go_wp2_with fail
        go_ret2
        exact ⟨rfl, rfl⟩
      | false =>
        have hd : defN s.data.toList = none := by unfold defN; rw [if_neg (by rw [hn]; simp)]
        rw [hd]
        rw [hn] at hnm
        have HN := Lib.hid hnm
        clear hnm hn hd hxs hxz hl hli h0
        go_enter Tryd.func59, Tryd.ntmps59
        go_wp2_with fail
        refine (HN.out _).mono ?_
        rintro e w1 ⟨rfl, rfl⟩
        go_wp2_with fail
        go_ret2
        exact ⟨rfl, rfl⟩
    · have hq : ((((s[s.size - 1]).toNat : Nat) : Int) != 58) = true := by rw [decide_eq_false hl] at hli; exact hli
      have hd : defN s.data.toList = none := by unfold defN; rw [if_neg (fun h => hl h.1)]
      rw [hd]
      clear hnm hd hxs hxz hl hli h0
      go_enter Tryd.func59, Tryd.ntmps59
      go_wp2_with fail
      go_ret2
      exact ⟨rfl, rfl⟩

theorem rRefers_any (s : ByteArray) (w : World) (hs : s.size ≤ maxLen) :
    Calls Tryd.prog 60 #[.string s] w fun e w' => e = .returned (refV s.data.toList) ∧ w = w' := by
  unfold refV
  by_cases h0 : s.size = 0
  · have h1 := empty_of_size h0
    have hd : refN s.data.toList = none := by rw [List.eq_nil_of_length_eq_zero (show s.data.toList.length = 0 from h0)]; rfl
    rw [hd]
    clear hd h0
    go_enter Tryd.func60, Tryd.ntmps60
    go_wp2_with fail
    go_ret2
    exact ⟨rfl, rfl⟩
  · have h1 : (s.toList == []) = false := by simpa using ne_of_size h0
    have h1' := ne_of_size h0
    have hpos : 0 < s.size := by omega
    have hdc := data_cons hpos
    have hxs : (s.extract 1 s.size).data.toList = s.data.toList.drop 1 := extract_drop s 1
    have hxz : (s.extract 1 s.size).size ≤ maxLen := by rw [ByteArray.size_extract]; omega
    have hnm := fun W => rName_any (s.extract 1 s.size) W hxz
    rw [hxs] at hnm
    unfold maxLen at hs
    by_cases hl : s[0] = 38
    · have hq : ((((s[0]).toNat : Nat) : Int) != 38) = false := by rw [hl]; rfl
      rw [hl] at hdc
      cases hn : nameB (s.data.toList.drop 1) with
      | true =>
        have hd : refN s.data.toList = some (s.data.toList.drop 1) := by
          conv => lhs; rw [hdc]
          unfold refN
          simp only
          rw [if_pos hn]
        have hba : BA (s.data.toList.drop 1) = s.extract 1 s.size := bytes_inj (by rw [BA_data, hxs])
        rw [hd]
        simp only
        rw [hba]
        rw [hn] at hnm
        have HN := Lib.hid hnm
        clear hnm hn hd hba hxs hxz hl hdc h0
        go_enter Tryd.func60, Tryd.ntmps60
        go_wp2_with fail
        refine (HN.out _).mono ?_
        rintro e w1 ⟨rfl, rfl⟩
        go_wp2_with fail
        go_ret2
        exact ⟨rfl, rfl⟩
      | false =>
        have hd : refN s.data.toList = none := by
          conv => lhs; rw [hdc]
          unfold refN
          simp only
          rw [if_neg (by rw [hn]; decide)]
        rw [hd]
        rw [hn] at hnm
        have HN := Lib.hid hnm
        clear hnm hn hd hxs hxz hl hdc h0
        go_enter Tryd.func60, Tryd.ntmps60
        go_wp2_with fail
        refine (HN.out _).mono ?_
        rintro e w1 ⟨rfl, rfl⟩
        go_wp2_with fail
        go_ret2
        exact ⟨rfl, rfl⟩
    · have hq : ((((s[0]).toNat : Nat) : Int) != 38) = true := u8_ne _ 38 hl
      have hd : refN s.data.toList = none := by
        rw [hdc]
        unfold refN
        split
        · rename_i r he
          injection he with h1 h2
          exact absurd h1 hl
        · rfl
      rw [hd]
      clear hnm hd hxs hxz hl hdc h0
      go_enter Tryd.func60, Tryd.ntmps60
      go_wp2_with fail
      go_ret2
      exact ⟨rfl, rfl⟩

theorem byte_string (q : UInt8) (b : Nat) (W : World) (T : TypeId) (h : W.heap[b]? = some (.cells #[.int .u8 (q.toNat : Int)] T (0, 0))) :
    (convert 43 9 (.slice (some ⟨b, 0, none⟩) 1 1)).run Tryd.prog W = .ok (.string ⟨#[q]⟩) W := by
  have := run_convert_bytes_arg (P := Tryd.prog) W 43 5 Tryd.underlying43 Tryd.underlying5 b 0 1 1 [(q.toNat : Int)] rfl (by
    intro i hi
    obtain rfl : i = 0 := by omega
    exact row_cell h rfl) 9 Tryd.underlying9
  simpa [strOfNums] using this

theorem digs_front : ∀ (k u : Nat), digs (k + 1) u = UInt8.ofNat (48 + (u / 10 ^ k) % 10) :: digs k u := by
  intro k
  induction k with
  | zero => intro u; simp [digs]
  | succ k ih =>
    intro u
    rw [digs, ih (u / 10), digs]
    rw [Nat.div_div_eq_div_mul, ← Nat.pow_succ']
    rfl

set_option maxHeartbeats 1000000 in
set_option maxRecDepth 100000 in
theorem rSix_any (n : Nat) (hn : (n : Int) ≤ 1099511627776) (w : World) :
    Calls Tryd.prog 63 #[.int .i64 (n : Int)] w fun e w' => e = .returned (.string (BA (digs 6 n))) ∧ Ext w w' := by
  obtain ⟨R, hR⟩ : ∃ R, R = BA (digs 6 n) := ⟨_, rfl⟩
  rw [← hR]
  have HR := Lib.hid hR
  clear hR
  go_enter Tryd.func63, Tryd.ntmps63
  go_wp2_with fail
  go_loopw [0, 3, 4] (fun m s i wr => ∃ k u : Nat, ∃ S : ByteArray, k ≤ 6 ∧ i = .int .i64 k ∧ m = .int .i64 (u : Int) ∧ u = n / 10 ^ k ∧ (u : Int) ≤ 1099511627776 ∧ s = .string S ∧ S.data.toList = digs k n ∧ Ext w wr) (fun _ _ i _ => 6 - (intOf i).toNat)
  case atStart => exact ⟨0, n, ⟨#[]⟩, Nat.zero_le _, rfl, rfl, by simp, hn, rfl, rfl, Ext.refl _⟩
  case round =>
    obtain ⟨k, u, S, hk, rfl, rfl, hu, hu2, rfl, hS, hx⟩ := hrel
    have HU := Lib.hid hu
    have HS := Lib.hid hS
    have hS2 : S.size ≤ 6 := by
      have h1 : S.data.toList.length = S.size := rfl
      rw [hS, digs_length] at h1
      omega
    clear hu hS
    by_cases hlt : k < 6
    · obtain ⟨q, hq⟩ : ∃ q : UInt8, q = UInt8.ofNat (48 + u % 10) := ⟨_, rfl⟩
      have hqn : (q.toNat : Int) = 48 + (u : Int) % 10 := by
        rw [hq, UInt8.toNat_ofNat']
        omega
      have hnx : Hid (((⟨#[q]⟩ : ByteArray) ++ S).data.toList = digs (k + 1) n) := by
        show _ = _
        rw [digs_front, ← HU.out, ← hq, ← HS.out]
        simp
      have hun : Hid (u / 10 = n / 10 ^ (k + 1)) := by
        show _ = _
        rw [HU.out, Nat.div_div_eq_div_mul, Nat.pow_succ]
      have HQ := Lib.hid hqn
      have hcv : ∀ b W, W.heap[b]? = some (.cells #[.int .u8 (48 + (u : Int) % 10)] 5 (0, 0)) → (convert 43 9 (.slice (some ⟨b, 0, none⟩) 1 1)).run Tryd.prog W = .ok (.string ⟨#[q]⟩) W := fun b W h => byte_string q b W _ (by rw [HQ.out]; exact h)
      have HCV := Lib.hid hcv
      clear hcv
      have hcx := HCV.out wr.heap.size (wr.alloc (.cells #[.int .u8 (48 + (u : Int) % 10)] 5)) (by show (wr.heap.push _)[wr.heap.size]? = _; simp)
      clear hq hqn
      go_wp2_with fail
      go_roundw
      case rel => exact ⟨k + 1, u / 10, _, by omega, by go_num, by go_num, hun.out, by omega, rfl, hnx.out, hx.alloc _⟩
      case measure => simp [intOf]; omega
    · obtain rfl : k = 6 := by omega
      have hfin : Hid (S = R) := by
        show _ = _
        rw [HR.out]
        exact bytes_inj (by rw [HS.out, BA_data])
      go_wp2_with fail
      go_ret
      exact ⟨ret_str hfin.out, hx⟩
end Go.Proofs.YtimegcnpembhkaaDoor
