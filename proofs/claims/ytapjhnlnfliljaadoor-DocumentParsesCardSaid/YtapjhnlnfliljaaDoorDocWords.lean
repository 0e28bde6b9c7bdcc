/- document.Words: the pieces between spaces that are not empty. (Layer 49) -/
import Derived.Test.YtapjhnlnfliljaaDoorDocMem
import Derived.Lib.SliceRun
namespace Go.Proofs.YtapjhnlnfliljaaDoor
open Go.RowKit
open Go.Lib hiding intOf
set_option linter.unusedVariables false

theorem strInfoD : (Tryd.prog.info? 9).map (fun i => (i.zero, i.size, i.bytes)) = some (some (.string ⟨#[]⟩), 1, 16) := by kernel_rfl
theorem zeroStr (w : World) : (zeroValue 9).run Tryd.prog w = .ok (.string ⟨#[]⟩) w := by kernel_rfl
theorem empty_any (x : Bytes) (w : World) :
    Calls Tryd.prog 26 #[.string (BA x)] w fun e w' => e = .returned (.bool (decide (x = []))) ∧ w = w' := by
  have hb : ((BA x).toList == []) = decide (x = []) := by
    rw [ByteArray.toList_eq, BA_data]
    cases x <;> rfl
  generalize decide (x = []) = d at *
  go_enter Tryd.func26, Tryd.ntmps26
  go_wp2_with fail
  go_ret
  exact ⟨rfl, rfl⟩
/-- the first empty piece -/
theorem idxE_any (g n cap : Nat) (ps : List Bytes) (w : World) (hb : Lst w (some ⟨g, 0, none⟩) n cap (strsV ps)) :
    Calls Tryd.prog 42 #[.slice (some ⟨g, 0, none⟩) n cap, .func (.func 26) #[] #[]] w fun e w' => (∃ i : Int, e = .returned (.int .i64 i) ∧ ((i = -1 ∧ ∀ x ∈ ps, x ≠ []) ∨ ∃ k : Nat, i = (k : Int) ∧ ∃ h : k < ps.length, ps[k] = [] ∧ ∀ x ∈ ps.take k, x ≠ [])) ∧ w = w' := by
  have hlen : n = ps.length := by have := hb.len; rwa [strsV_len] at this
  have hroom := hb.room
  have hmax := hb.max
  unfold maxLen at hmax
  have HL := Lib.hid hlen
  clear hlen
  go_enter Tryd.func42, Tryd.ntmps42
  go_wp2_with fail
  go_loopw [8] (fun i wr => w = wr ∧ ∃ k : Nat, k ≤ n ∧ i = .int .i64 k ∧ ∀ x ∈ ps.take k, x ≠ []) (fun i _ => n - (intOf i).toNat)
  case atStart => exact ⟨rfl, 0, Nat.zero_le _, rfl, fun x hx => by cases hx⟩
  case round =>
    obtain ⟨rfl, k, hk, rfl, hall⟩ := hrel
    have HA := Lib.hid hall
    clear hall
    by_cases hlt : k < n
    · obtain ⟨b, off, hA, hc⟩ := hb.at_ (by omega)
      have hA := Option.some.inj hA
      injection hA with h1 h2
      subst h1 h2
      have hkl : k < ps.length := by have := HL.out; omega
      have hc1 := hc k (by rw [strsV_len]; exact hkl)
      simp only [strsV, List.getElem_map, Nat.zero_add] at hc1
      have hstep : Hid (ps[k] ≠ [] → ∀ x ∈ ps.take (k + 1), x ≠ []) := by
        intro h x hx
        rw [List.take_succ_eq_append_getElem hkl] at hx
        rcases List.mem_append.1 hx with hx | hx
        · exact HA.out x hx
        · rw [List.mem_singleton.1 hx]; exact h
      have hfin : Hid (ps[k] = [] → ∃ h : k < ps.length, ps[k] = [] ∧ ∀ x ∈ ps.take k, x ≠ []) := fun h => ⟨hkl, h, HA.out⟩
      have HE := Lib.hid (fun W => empty_any ps[k] W)
      generalize hx : ps[k] = x at *
      have HX := Lib.hid hx
      clear hc hx
      cases hd : decide (x = []) with
      | true =>
        have h0 := of_decide_eq_true hd
        rw [hd] at HE
        have HD := Lib.hid h0
        clear hd h0
        go_wp2_with fail
        refine (HE.out _).mono ?_
        rintro e w1 ⟨rfl, rfl⟩
        go_wp2_with fail
        go_ret
        exact ⟨⟨_, rfl, .inr ⟨k, rfl, by obtain ⟨a, b, c⟩ := hfin.out HD.out; exact ⟨a, HX.out.trans HD.out, c⟩⟩⟩, rfl⟩
      | false =>
        have h0 := of_decide_eq_false hd
        rw [hd] at HE
        have HD := Lib.hid h0
        clear hd h0
        go_wp2_with fail
        refine (HE.out _).mono ?_
        rintro e w1 ⟨rfl, rfl⟩
        go_wp2_with fail
        go_roundw
        case rel => exact ⟨trivial, k + 1, by omega, by go_num, hstep.out HD.out⟩
        case measure => simp [intOf]; omega
    · obtain rfl : k = n := by omega
      go_wp2_with fail
      go_ret
      refine ⟨⟨_, rfl, .inl ⟨rfl, ?_⟩⟩, rfl⟩
      have := HA.out
      rwa [HL.out, List.take_length] at this
def keptA (l : List Bytes) : List Bytes := l.filter (· ≠ [])
/-- what holds while the pieces are gone through -/
structure DelInv (ps cur : List Bytes) (i j : Nat) : Prop where
  lt : i < j
  le : j ≤ ps.length
  len : cur.length = ps.length
  low : cur.take i = keptA (ps.take j)
  high : cur.drop j = ps.drop j
theorem DelInv.start {ps : List Bytes} {k : Nat} (hk : k < ps.length) (h0 : ps[k] = []) (h : ∀ x ∈ ps.take k, x ≠ []) : DelInv ps ps k (k + 1) := by
  refine ⟨by omega, by omega, rfl, ?_, rfl⟩
  unfold keptA
  rw [List.take_succ_eq_append_getElem hk, List.filter_append, h0, List.filter_eq_self.2 (fun x hx => by simpa using h x hx)]
  simp
theorem DelInv.at {ps cur : List Bytes} {i j : Nat} (h : DelInv ps cur i j) (hj : j < ps.length) : cur[j]'(by rw [h.len]; exact hj) = ps[j] := by
  have := congrArg (fun l => l[0]?) h.high
  simp only [List.getElem?_drop, Nat.add_zero] at this
  rw [List.getElem?_eq_getElem (by rw [h.len]; exact hj), List.getElem?_eq_getElem hj] at this
  exact Option.some.inj this
theorem DelInv.skip {ps cur : List Bytes} {i j : Nat} (h : DelInv ps cur i j) (hj : j < ps.length) (h0 : ps[j] = []) : DelInv ps cur i (j + 1) := by
  refine ⟨by have := h.lt; omega, by omega, h.len, ?_, ?_⟩
  · rw [h.low]
    unfold keptA
    rw [List.take_succ_eq_append_getElem hj, List.filter_append, h0]
    simp
  · have := congrArg (List.drop 1) h.high
    rwa [List.drop_drop, List.drop_drop] at this
theorem DelInv.keep {ps cur : List Bytes} {i j : Nat} (h : DelInv ps cur i j) (hj : j < ps.length) (h0 : ps[j] ≠ []) : DelInv ps (cur.set i ps[j]) (i + 1) (j + 1) := by
  have hl := h.lt
  have hc := h.len
  refine ⟨by omega, by omega, by rw [List.length_set]; exact h.len, ?_, ?_⟩
  · rw [List.take_succ_eq_append_getElem (by rw [List.length_set]; omega), List.take_set_of_le (Nat.le_refl _), List.getElem_set_self, h.low]
    unfold keptA
    rw [List.take_succ_eq_append_getElem hj, List.filter_append]
    simp [h0]
  · rw [List.drop_set_of_lt (by omega)]
    have := congrArg (List.drop 1) h.high
    rwa [List.drop_drop, List.drop_drop] at this
theorem blk_put {w : World} {b : Nat} {T : TypeId} {xs : List Value} (h : Blk w b T xs) (i : Nat) (v : Value) : Blk (w.setCell ⟨b, i, none⟩ v) b T (xs.set i v) := by
  unfold Blk at h ⊢
  simp [World.setCell, Array.getElem?_modify, h]
theorem strsV_set (l : List Bytes) (i : Nat) (x : Bytes) : (strsV l).set i (.string (BA x)) = strsV (l.set i x) := by simp [strsV, List.map_set]
theorem blk_free {w : World} {b : Nat} {T : TypeId} {xs : List Value} (h : Blk w b T xs) (i : Nat) : w.frozen? ⟨b, i, none⟩ = false := Lib.frozen_of_heap (show w.heap[b]? = _ from h) i
theorem ext_setCells {w0 : World} {b : Nat} (hb : w0.heap.size ≤ b) : ∀ (vs : List Value) (o : Nat) (w : World), Ext w0 w → Ext w0 (w.setCells b o vs)
  | [], _, _, h => h
  | v :: r, o, w, h => ext_setCells hb r (o + 1) (w.setCell ⟨b, o, none⟩ v) (h.set hb v)
theorem own_beyonds {base g n cap : Nat} {e : TypeId} {xs : List Value} : ∀ (vs : List Value) (o : Nat) (w : World), n ≤ o → w.ownsRow base e 1 (.slice (some ⟨g, 0, none⟩) n cap) n xs → (w.setCells g o vs).ownsRow base e 1 (.slice (some ⟨g, 0, none⟩) n cap) n xs
  | [], _, _, _, h => h
  | v :: r, o, w, ho, h => by
    refine own_beyonds r (o + 1) (w.setCell ⟨g, o, none⟩ v) (by omega) ⟨h.1, ?_⟩
    rcases h.2 with ⟨e1, _⟩ | ⟨g', cap', cur, e1, hB, hg, h1, h2, h3, h4⟩
    · injection e1 with e1; cases e1
    · injection e1 with e1 e2 e3
      injection e1 with e1
      injection e1 with e1
      subst e1 e3
      refine .inr ⟨g, cap, cur.setIfInBounds o v, rfl, hB, ?_, h1, h2, by simp [h3], ?_⟩
      · simp [World.setCell, Array.getElem?_modify, hg]
      · rw [Array.toList_setIfInBounds, List.take_set_of_le (by omega), h4]
theorem own_of_blk {w : World} {base g n cap : Nat} {e : TypeId} {xs : List Value} (h : Blk w g e xs) (hB : base ≤ g) (hn : n ≤ xs.length) (hc : cap = xs.length) (hm : cap ≤ maxLen) : w.ownsRow base e 1 (.slice (some ⟨g, 0, none⟩) n cap) n (xs.take n) :=
  ⟨by rw [List.length_take]; omega, .inr ⟨g, cap, xs.toArray, rfl, hB, h, by omega, hm, by simp [hc], by simp⟩⟩
set_option maxRecDepth 100000 in
set_option maxHeartbeats 1600000 in
/-- the pieces that are not empty, in their old place -/
theorem del_any (w0 : World) (g : Nat) (ps : List Bytes) (w : World) (hb : Blk w g 9 (strsV ps)) (hg : w0.heap.size ≤ g) (hx0 : Ext w0 w) (hN : ps.length ≤ 1000000) (hN1 : 1 ≤ ps.length) :
    Calls Tryd.prog 25 #[.slice (some ⟨g, 0, none⟩) ps.length ps.length, .func (.func 26) #[] #[]] w fun e w' => ∃ v, e = .returned v ∧ w'.ownsRow w0.heap.size 9 1 v (keptA ps).length (strsV (keptA ps)) ∧ Ext w0 w' := by
  obtain ⟨N, hNN⟩ : ∃ N, N = ps.length := ⟨_, rfl⟩
  have HN := Lib.hid hNN
  rw [← hNN] at hN hN1 ⊢
  have hL : Lst w (some ⟨g, 0, none⟩) N N (strsV ps) := Lst.block hb (by rw [strsV_len]; exact hNN) (by unfold maxLen; omega)
  have HI := Lib.hid (idxE_any g N N ps w hL)
  have HB := Lib.hid hb
  have HX0 := Lib.hid hx0
  clear hL hb hx0 hNN
  go_enter Tryd.func25, Tryd.ntmps25
  go_wp2_with fail
  refine HI.out.mono ?_
  rintro e w1 ⟨⟨i, rfl, hi⟩, rfl⟩
  rcases hi with ⟨rfl, hall⟩ | ⟨k, rfl, hk, hk0, hkall⟩
  · have hkp : keptA ps = ps := List.filter_eq_self.2 (fun x hx => by simpa using hall x hx)
    have HKP := Lib.hid hkp
    clear hall hkp
    go_wp2_with fail
    go_ret
    rw [HKP.out]
    refine ⟨_, rfl, ?_, HX0.out⟩
    have := own_of_blk (n := N) (cap := N) HB.out hg (by rw [strsV_len, ← HN.out]; exact Nat.le_refl _) (by rw [strsV_len]; exact HN.out) (by unfold maxLen; omega)
    rw [List.take_of_length_le (by rw [strsV_len]; exact Nat.le_of_eq HN.out.symm), ] at this
    rw [← HN.out]; exact this
  · have hkN : k < N := by have := HN.out; omega
    have hkm : ((k : Int) == -1) = false := beq_eq_false_iff_ne.2 (by omega)
    have HD := Lib.hid (DelInv.start hk hk0 hkall)
    clear hk hk0 hkall
    go_wp2_with fail
    go_loopw [5, 6] (fun s5 s6 wr => ∃ (i j : Nat) (cur : List Bytes), s5 = .int .i64 i ∧ s6 = .int .i64 j ∧ DelInv ps cur i j ∧ Blk wr g 9 (strsV cur) ∧ Ext w0 wr) (fun _ s6 _ => N - (intOf s6).toNat)
    case atStart => exact ⟨k, k + 1, ps, rfl, by go_num, HD.out, HB.out, HX0.out⟩
    case round =>
      obtain ⟨i, j, cur, rfl, rfl, hD, hbk, hx⟩ := hrel
      have hij := hD.lt
      have hjN : j ≤ N := by have := hD.le; have := HN.out; omega
      have hcl : cur.length = N := by rw [hD.len, ← HN.out]
      by_cases hlt : j < N
      · have hjp : j < ps.length := by have := HN.out; omega
        have e1 := hbk.cell (i := j) (strsV_get cur j _ (List.getElem?_eq_getElem (by omega)))
        have e2 := hbk.cell (i := i) (strsV_get cur i _ (List.getElem?_eq_getElem (by omega)))
        have f2 := blk_free hbk i
        rw [hD.at hjp] at e1
        have hcase : (ps[j] = [] → DelInv ps cur i (j + 1)) ∧ (ps[j] ≠ [] → DelInv ps (cur.set i ps[j]) (i + 1) (j + 1)) := ⟨hD.skip hjp, hD.keep hjp⟩
        generalize ps[j] = x at *
        generalize cur[i] = y at *
        have HE := Lib.hid (fun W => empty_any x W)
        have HCS := Lib.hid hcase
        have HBK := Lib.hid hbk
        clear hD hbk hcl hcase
        cases hd : decide (x = []) with
        | true =>
          have HD0 := Lib.hid (of_decide_eq_true hd)
          rw [hd] at HE
          clear hd
          go_wp2_with fail
          refine (HE.out _).mono ?_
          rintro e w1 ⟨rfl, rfl⟩
          go_wp2_with fail
          go_roundw
          case rel => exact ⟨i, j + 1, cur, rfl, by go_num, HCS.out.1 HD0.out, HBK.out, hx⟩
          case measure => simp [intOf]; omega
        | false =>
          have HD0 := Lib.hid (of_decide_eq_false hd)
          rw [hd] at HE
          clear hd
          go_wp2_with fail
          refine (HE.out _).mono ?_
          rintro e w1 ⟨rfl, rfl⟩
          go_wp2_with fail
          go_roundw
          case rel => exact ⟨i + 1, j + 1, cur.set i x, by go_num, by go_num, HCS.out.2 HD0.out, by rw [← strsV_set]; exact blk_put HBK.out i _, hx.set hg _⟩
          case measure => simp [intOf]; omega
      · obtain rfl : j = N := by omega
        have hlow := hD.low
        rw [HN.out, List.take_length] at hlow
        have hki : (keptA ps).length = i := by rw [← hlow, List.length_take]; omega
        have hown := own_of_blk (n := i) (cap := j) hbk hg (by rw [strsV_len]; omega) (by rw [strsV_len]; exact hcl.symm) (by unfold maxLen; omega)
        have htk : (strsV cur).take i = strsV (keptA ps) := by rw [← hlow]; simp [strsV, List.map_take]
        rw [htk] at hown
        have hcl2 : ∀ ty, (Builtin.clear_ #[30] ty #[.slice (some ⟨g, i, none⟩) (j - i) (j - i)]).run Tryd.prog wr = .ok (.tuple #[]) (wr.setCells g i (List.replicate (j - i) (.string ⟨#[]⟩))) :=
          fun ty => Lib.run_clear_slice wr _ _ ty _ Tryd.underlying30 zeroStr rfl rfl g i _ _ (by omega) (fun t ht => by
            rw [hbk.cell (i := i + t) (strsV_get cur (i + t) _ (List.getElem?_eq_getElem (by omega)))]; rfl) (fun t ht => blk_free hbk _)
        have HO := Lib.hid (own_beyonds (List.replicate (j - i) (.string ⟨#[]⟩)) i wr (Nat.le_refl _) hown)
        have HX := Lib.hid (ext_setCells hg (List.replicate (j - i) (.string ⟨#[]⟩)) i wr hx)
        have HK := Lib.hid hki
        clear hD hbk hcl hlow hki hown htk hx
        go_wp2_with fail
        go_ret
        exact ⟨_, rfl, by rw [HK.out]; exact HO.out, HX.out⟩
theorem words_any (s : ByteArray) (w : World) (hs : s.size ≤ 100000) (hE : Env w) :
    Calls Tryd.prog 13 #[.string s] w fun e w' => ∃ v, e = .returned v ∧ w'.ownsRow w.heap.size 9 1 v (wordsA s.data.toList).length (strsV (wordsA s.data.toList)) ∧ Ext w w' := by
  have HS := Lib.hid (split_any 32 s w (by omega) hE)
  have hk : keptA (cutAt 32 [] s.data.toList) = wordsA s.data.toList := rfl
  have hsum : (cutAt 32 [] s.data.toList).length ≤ 1000000 := by
    have : ∀ (l p : Bytes), (cutAt 32 p l).length ≤ l.length + 1 := by
      intro l
      induction l with
      | nil => intro p; simp [cutAt]
      | cons x l ih => intro p; rw [cutAt]; split; (have := ih []; simp; omega); (have := ih (p ++ [x]); simp; omega)
    have := this s.data.toList []
    simp at this
    omega
  have h1 : 1 ≤ (cutAt 32 [] s.data.toList).length := by
    have := cutAt_ne 32 s.data.toList []
    cases h : cutAt 32 [] s.data.toList with
    | nil => exact absurd h this
    | cons a b => simp
  rw [← hk]
  generalize cutAt 32 [] s.data.toList = ps at *
  have HD := Lib.hid (fun W (hb : Blk W w.heap.size 9 (strsV ps)) (hx : Ext w W) => del_any w w.heap.size ps W hb (Nat.le_refl _) hx hsum h1)
  clear hE hk
  go_enter Tryd.func13, Tryd.ntmps13
  go_wp2_with fail
  refine HS.out.mono ?_
  rintro e w1 ⟨rfl, hb, hx⟩
  have HDD := Lib.hid (HD.out w1 hb hx)
  clear hb
  go_wp2_with fail
  refine HDD.out.mono ?_
  rintro e w2 ⟨v, rfl, hown, hx2⟩
  have HO := Lib.hid hown
  clear hown
  go_wp2_with fail
  go_ret
  exact ⟨_, rfl, HO.out, hx2⟩
end Go.Proofs.YtapjhnlnfliljaaDoor
