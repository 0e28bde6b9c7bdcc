/- The contract of pathname.Join; the plain law of subtrees. -/
import Derived.Test.YtkbaappeakgnoaaDoorRetJoin
import Derived.Test.YtkbaappeakgnoaaDoorRetPlain
import Derived.Test.YtkbaappeakgnoaaDoorMem
namespace Go.Proofs.YtkbaappeakgnoaaDoor
open Go.RowKit Go.Lib
set_option linter.unusedVariables false

theorem elementsO_any (s : ByteArray) (w : World) (hs : s.size < 4294967281) (hE : Env w) :
    Calls Tryd.prog 33 #[.string s] w fun e w' => ∃ v, e = .returned v ∧ w'.ownsRow w.heap.size 9 1 v (els s).length ((els s).map .string) ∧ Ext w w' := by
  by_cases h0 : s.size = 0
  · have h1 : (s.toList = []) := by
      rw [ByteArray.toList_eq]
      exact List.eq_nil_of_length_eq_zero h0
    have he : els s = [] := by unfold els; rw [if_pos h0]
    rw [he]
    clear he h0
    go_enter Tryd.func33, Tryd.ntmps33
    go_wp2_with fail
    go_ret
    exact ⟨_, rfl, World.ownsRow_nil _ _ _ _, Ext.refl _⟩
  · have h1 : (s.toList == []) = false := by
      rw [beq_eq_false_iff_ne, ByteArray.toList_eq]
      intro h
      exact h0 (by have : s.size = s.data.toList.length := rfl; rw [this, h]; rfl)
    have h1' : ¬ (s.toList = []) := by simpa using h1
    have he : els s = splitB slash 0 (countB s slash) s := by unfold els; rw [if_neg h0]
    have hlen : (splitB slash 0 (countB s slash) s).length = countB s slash + 1 := splitB_all slash (by decide) 0 _ s rfl
    have hle := els_length s
    rw [he, hlen] at hle
    have hlen' := hlen
    obtain ⟨m, hm⟩ := hE
    have hsp := Tryd.strings_Split s slash m w hs hm (by decide)
    rw [he]
    unfold slash at *
    generalize hN : countB s ⟨#[47]⟩ + 1 = N at *
    generalize splitB ⟨#[47]⟩ 0 (countB s ⟨#[47]⟩) s = l at *
    have H := Lib.hid hsp
    have HL := Lib.hid hlen
    clear hsp hN he h0 hlen hlen' hm
    go_enter Tryd.func33, Tryd.ntmps33
    go_wp2_with fail
    refine H.out.mono ?_
    rintro e w' ⟨rfl, rfl⟩
    go_wp2_with fail
    go_ret
    refine ⟨_, rfl, ?_, (Ext.refl _).alloc _⟩
    refine ⟨by simp, Or.inr ⟨w.heap.size, N, (l.map Value.string).toArray, by rw [HL.out]; rfl, Nat.le_refl _, by show (w.heap.push _)[w.heap.size]? = _; simp, by rw [HL.out]; exact Nat.le_refl _, by unfold maxLen; omega, by simp [HL.out], ?_⟩⟩
    rw [List.take_of_length_le (by simp)]

theorem psplitO_any (s : ByteArray) (w : World) (hc : chk s = 0) (hs : s.size < 4294967281) (hE : Env w) :
    Calls Tryd.prog 28 #[.string s] w fun e w' => ∃ v, e = .returned (.tuple #[v, .int .i64 0]) ∧ w'.ownsRow w.heap.size 9 1 v (els s).length ((els s).map .string) ∧ Ext w w' := by
  have hck := check_any s w hs hE
  have hel := fun W (hW : Env W) => elementsO_any s W hs hW
  rw [hc] at hck
  generalize els s = l at *
  have HC := Lib.hid hck
  have HE := Lib.hid hel
  clear hck hel hc
  go_enter Tryd.func28, Tryd.ntmps28
  go_wp2_with fail
  refine HC.out.mono ?_
  rintro e w1 ⟨rfl, hx1⟩
  go_wp2_with fail
  refine (HE.out _ (hE.ext hx1)).mono ?_
  rintro e w2 ⟨v, rfl, hl, hx2⟩
  go_wp2_with fail
  go_ret2
  refine ⟨v, rfl, ?_, hx1.trans hx2⟩
  obtain ⟨h1, h2⟩ := hl
  refine ⟨h1, ?_⟩
  rcases h2 with h | ⟨g, cap, cur, hv, hB, h⟩
  · exact Or.inl h
  · exact Or.inr ⟨g, cap, cur, hv, Nat.le_trans hx1.size hB, h⟩

theorem jn_le (xs : List (List UInt8)) (k : Nat) (h : ∀ x ∈ xs, x.length ≤ k) : (Lib.join xs [47]).length ≤ xs.length * (k + 1) := by
  induction xs with
  | nil => rw [jn_nil]; exact Nat.zero_le _
  | cons a r ih =>
    have h1 := h a (by simp)
    have h2 := ih (fun x hx => h x (by simp [hx]))
    cases r with
    | nil => rw [jn_one]; simp; omega
    | cons b r =>
      rw [jn_cons]
      simp only [List.length_append, List.length_cons] at h2 ⊢
      rw [Nat.add_mul]
      omega

set_option maxHeartbeats 1000000 in
set_option maxRecDepth 100000 in
theorem pjoin_any (d nm : ByteArray) (w : World) (hc : chk d = 0) (hn : nm.size < 4294967281) (hE : Env w) :
    Calls Tryd.prog 16 #[.string d, .string nm] w fun e w' => ∃ (r : ByteArray) (z : Int), e = .returned (.tuple #[.string r, .int .i64 z]) ∧ (z = 0 → chk r = 0 ∧ els r = els d ++ [nm]) ∧ r.size ≤ 10000 ∧ Ext w w' := by
  obtain ⟨i0, hi, hz0, hz1, hz2⟩ := info_parts Tryd.infoStr
  obtain ⟨f1, f2, f3⟩ := chk_zero hc
  have hsp := psplitO_any d w hc (by omega) hE
  have hcm := fun W => component_any nm W (by unfold maxLen; omega)
  have hall : okComp nm = true → (els d ++ [nm]).all okComp = true := by
    intro h; rw [List.all_append, f3]; simp [h]
  have hej : okComp nm = true → els (joinB (els d ++ [nm])) = els d ++ [nm] := fun h => els_joinB _ (hall h)
  have hsz : okComp nm = true → (joinB (els d ++ [nm])).size ≤ 10000 := by
    intro h
    rw [joinB_size]
    have hk : ∀ x ∈ (els d ++ [nm]).map (·.data.toList), x.length ≤ 200 := by
      intro x hx
      obtain ⟨y, hy, rfl⟩ := List.mem_map.1 hx
      show y.size ≤ 200
      rcases List.mem_append.1 hy with h1 | h1
      · have := els_mem_size d y h1; omega
      · obtain rfl : y = nm := by simpa using h1
        unfold okComp at h
        simp only [Bool.and_eq_true, decide_eq_true_eq] at h
        omega
    have := jn_le _ 200 hk
    simp only [List.length_map, List.length_append, List.length_cons, List.length_nil] at this
    omega
  have hck := fun W (hW : Env W) (h : okComp nm = true) => check_any (joinB (els d ++ [nm])) W (by have := hsz h; omega) hW
  have hJ := fun b off cap W h1 h2 h3 (h : okComp nm = true) => Tryd.strings_Join b off cap (els d ++ [nm]) ⟨#[47]⟩ W h1 h2 (by simp; omega) h3 (by
    have := hsz h
    rw [joinB_size] at this
    exact Nat.le_trans this (by decide))
  have hjb : ∀ xs : List ByteArray, (⟨(Lib.join (xs.map (·.data.toList)) (⟨#[47]⟩ : ByteArray).data.toList).toArray⟩ : ByteArray) = joinB xs := fun _ => rfl
  rw [hjb] at hJ
  rw [show (els d ++ [nm]).length = (els d).length + 1 by simp] at hJ
  generalize okComp nm = ok at *
  generalize hR : joinB (els d ++ [nm]) = R at *
  generalize hL : els d = l at *
  have H := Lib.hid hsp
  have HC := Lib.hid hcm
  have HEJ := Lib.hid hej
  have HJ := Lib.hid hJ
  have HK := Lib.hid hck
  clear hsp hcm hc hall hej hjb f3 hJ hck hR hL
  cases ok with
  | false =>
    clear hsz
    go_enter Tryd.func16, Tryd.ntmps16
    go_wp2_with fail
    refine H.out.mono ?_
    rintro e w1 ⟨v, rfl, hown, hx1⟩
    go_wp2_with fail
    refine (HC.out _).mono ?_
    rintro e w2 ⟨rfl, hx2⟩
    go_wp2_with fail
    go_ret2
    exact ⟨⟨#[]⟩, 7, rfl, fun h => absurd h (by decide), Nat.zero_le _, hx1.trans hx2⟩
  | true =>
    have hrs := hsz rfl
    clear hsz
    go_enter Tryd.func16, Tryd.ntmps16
    go_wp2_with fail
    refine H.out.mono ?_
    rintro e w1 ⟨v, rfl, hown, hx1⟩
    go_wp2_with fail
    refine (HC.out _).mono ?_
    rintro e w2 ⟨rfl, hx2⟩
    have HO := Lib.hid (own_ext hown hx2)
    have hx12 := hx1.trans hx2
    have hll : l.length + 1 ≤ 9 := by omega
    clear hown
    go_wp2_with (at_builtin; refine wpList_append_own _ rfl (.tmp 21) (.tmp 23) _ rfl w.heap.size 9 i0 _ 1 16 Tryd.underlying47 hi hz0 hz1 hz2 rfl (by omega) _ _ _ rfl (HO.out.alloc _) ⟨w2.heap.size, 0, none⟩ 1 1 [.string nm] rfl rfl ?c1 ?c2 ?c3 ?c4 ?c5 ?_)
    case c1 =>
      intro j u hu
      match j, hu with
      | 0, hu => simp at hu; subst hu; go_cell
    case c2 =>
      intro u hu
      simp at hu
      subst hu; rfl
    case c3 => unfold maxLen; omega
    case c4 => omega
    case c5 => (have hc5 := hx12.size; try simp at hc5); simp; omega
    intro v' w2 hown2 hgr _
    have hx3 := (hx12.alloc (.cells #[.string nm] 9)).grown hgr (fun k hk => (HO.out.lt k hk).1)
    have HO2 := Lib.hid hown2
    have HG := Lib.hid hgr
    clear hown2 hgr
    obtain ⟨A2, cap2, rfl, hl2⟩ := Lst.of_own HO2.out
    have hl3 : Lst w2 A2 (l.length + 1) cap2 ((l ++ [nm]).map .string) := by rw [List.map_append]; exact hl2
    have hroom := hl3.room
    have hmax := hl3.max
    unfold maxLen at hmax
    obtain ⟨b, off, rfl, hcl⟩ := hl3.at_ (by omega)
    have hj := HJ.out b off cap2 w2 (by
      intro j x hj
      have hj2 := hj
      rw [List.getElem?_eq_some_iff] at hj2
      obtain ⟨hj3, hj4⟩ := hj2
      have := hcl j (by rw [List.length_map]; exact hj3)
      rw [List.getElem_map, hj4] at this
      exact this) (by
        have := hcl 0 (by simp)
        exact cell_lt this) hroom trivial
    have HJ2 := Lib.hid hj
    have HCK := Lib.hid (HK.out)
    clear hj hl2 hl3 hcl HO2 HG HJ HK
    go_wp2_with fail
    refine HJ2.out.mono ?_
    rintro e w4 ⟨rfl, hx4⟩
    have hx4 : Ext w2 w4 := hx4
    have hx5 := hx3.trans hx4
    have hck2 := HCK.out w4 (hE.ext hx5) trivial
    generalize hz : chk R = z at *
    have HZ := Lib.hid hz
    have HCK2 := Lib.hid hck2
    clear hz hck2 hx3 hx4
    go_wp2_with fail
    refine HCK2.out.mono ?_
    rintro e w5 ⟨rfl, hx6⟩
    have hx56 := hx5.trans hx6
    by_cases h0 : z = 0
    · subst h0
      go_wp2_with fail
      go_ret2
      exact ⟨R, 0, rfl, fun _ => ⟨HZ.out, HEJ.out trivial⟩, hrs, hx56⟩
    · have h0' : (z != 0) = true := bne_iff_ne.2 h0
      have HN := Lib.hid h0
      clear h0
      go_wp2_with fail
      go_ret2
      exact ⟨⟨#[]⟩, z, rfl, fun h => absurd h HN.out, Nat.zero_le _, hx56⟩

/-- what is under a covered path is covered -/
theorem under_join {p d b nm : ByteArray} (h : under p d = true) (hb : chk b = 0) (he : els b = els p ++ [nm]) : under b d = true := by
  unfold under at h ⊢
  simp only [Bool.and_eq_true, beq_iff_eq, decide_eq_true_eq] at h ⊢
  refine ⟨⟨hb, h.1.2⟩, ?_⟩
  have h2 := h.2
  have hle : (els d).length ≤ (els p).length := by
    have := congrArg List.length h2
    rw [List.length_take] at this
    omega
  rw [he, List.take_append_of_le_length hle]
  exact h2
theorem heldB_join {l : List Hold} {p b nm : ByteArray} {d : Int} (h : heldB l p d = true) (hb : chk b = 0) (he : els b = els p ++ [nm]) : heldB l b d = true := by
  unfold heldB at h ⊢
  rw [List.any_eq_true] at h ⊢
  obtain ⟨x, hx, hx2⟩ := h
  rw [Bool.and_eq_true] at hx2
  refine ⟨x, hx, ?_⟩
  rw [Bool.and_eq_true]
  exact ⟨hx2.1, under_join hx2.2 hb he⟩

/-- a path above another one -/
def Above (a p : ByteArray) : Prop := chk a = 0 ∧ ∃ j, j ≤ (els p).length ∧ els a = (els p).take j
theorem Above.refl {p : ByteArray} (h : chk p = 0) : Above p p := ⟨h, _, Nat.le_refl _, (List.take_of_length_le (Nat.le_refl _)).symm⟩
theorem Above.par {a p : ByteArray} (h : Above a p) (h0 : a.size ≠ 0) : Above (par a) p := by
  obtain ⟨hc, j, hj, he⟩ := h
  refine ⟨par_chk hc h0, j - 1, by omega, ?_⟩
  rw [par_els hc, he, List.dropLast_eq_take, List.length_take, List.take_take]
  congr 1
  omega
theorem Above.under {a p : ByteArray} (h : Above a p) (hp : chk p = 0) : under p a = true := by
  obtain ⟨hc, j, hj, he⟩ := h
  unfold Proofs.YtkbaappeakgnoaaDoor.under
  simp only [Bool.and_eq_true, beq_iff_eq, decide_eq_true_eq]
  refine ⟨⟨hp, hc⟩, ?_⟩
  rw [he, List.length_take]
  congr 1
  omega
theorem above_forbidden {l : List Hold} {x : Hold} {a : ByteArray} {d : Int} (hx : x ∈ l.filter (inForce d)) (hp : chk x.1 = 0) (ha : Above a x.1) : allowZ l 4 a d = 15 := by
  have hb : belowB l a d = true := by
    unfold belowB
    rw [List.any_eq_true]
    obtain ⟨h1, h2⟩ := List.mem_filter.1 hx
    exact ⟨x, h1, by rw [h2, ha.under hp]; rfl⟩
  unfold allowZ
  rw [if_neg (by decide), if_pos rfl, hb, Bool.or_true, if_pos rfl]
theorem held_forbidden {l : List Hold} {p : ByteArray} {d k : Int} (h : heldB l p d = true) (hk : k = 1 ∨ k = 2 ∨ k = 3 ∨ k = 4) : allowZ l k p d = 15 := by
  unfold allowZ
  rw [h]
  rcases hk with rfl | rfl | rfl | rfl <;> rfl
/-- the measure of a path above -/
theorem par_less {a : ByteArray} (hc : chk a = 0) (h0 : a.size ≠ 0) : (els (par a)).length < (els a).length := by
  rw [par_els hc, List.length_dropLast]
  have : (els a).length ≠ 0 := fun e => els_ne a h0 (List.eq_nil_of_length_eq_zero e)
  omega
end Go.Proofs.YtkbaappeakgnoaaDoor
