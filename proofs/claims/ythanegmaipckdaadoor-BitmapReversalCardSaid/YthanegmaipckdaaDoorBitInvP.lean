/- The plain laws of inversion and of reversal. (Layer 52) -/
import Derived.Test.YthanegmaipckdaaDoorBitLawP
namespace Go.Proofs.YthanegmaipckdaaDoor
open Go.Lib Dec

/-- the other of both characters -/
def inv (c : UInt8) : UInt8 := if c = 46 then 35 else if c = 35 then 46 else c
theorem u8_allI {p : UInt8 → Prop} (h : ∀ n : Fin 256, p (UInt8.ofNat n.val)) (c : UInt8) : p c := by
  have := h ⟨c.toNat, c.toNat_lt⟩
  simpa using this
theorem inv_inv (c : UInt8) : inv (inv c) = c := u8_allI (p := fun c => inv (inv c) = c) (by decide +kernel) c
theorem inv_px (c : UInt8) : isPx (inv c) = isPx c := u8_allI (p := fun c => isPx (inv c) = isPx c) (by decide +kernel) c
theorem inv_dg {c : UInt8} (h : dgB c = true) : inv c = c := by
  have := u8_allI (p := fun c => dgB c = true → inv c = c) (by decide +kernel) c
  exact this h
theorem inv_ne {a b : UInt8} (h : a ≠ b) : inv a ≠ inv b := fun e => h (by rw [← inv_inv a, e, inv_inv])
def invR (rs : List (Nat × UInt8)) : List (Nat × UInt8) := rs.map fun x => (x.1, inv x.2)
theorem enc_inv : ∀ rs : List (Nat × UInt8), (encB rs).map inv = encB (invR rs) := by
  intro rs
  induction rs with
  | nil => rfl
  | cons x r ih =>
    have hd : (decDigits x.1).map inv = decDigits x.1 := by
      conv => rhs; rw [← List.map_id (decDigits x.1)]
      exact List.map_congr_left fun c hc => inv_dg (dec_dig _ c hc)
    rw [encB_cons, List.map_append, List.map_append, ih, hd]
    rfl
theorem good_inv : ∀ (rs : List (Nat × UInt8)) (last : UInt8), GoodR last rs → GoodR (inv last) (invR rs) := by
  intro rs
  induction rs with
  | nil => intro _ _; trivial
  | cons x r ih =>
    intro last ⟨h1, h2, h3, h4, h5⟩
    exact ⟨h1, h2, by simpa [inv_px] using h3, inv_ne h4, ih _ h5⟩
theorem cells_inv : ∀ rs : List (Nat × UInt8), cellsR (invR rs) = (cellsR rs).map inv := by
  intro rs
  induction rs with
  | nil => rfl
  | cons x r ih =>
    show cellsR ((x.1, inv x.2) :: invR r) = _
    rw [cellsR_cons, cellsR_cons, List.map_append, ih, List.map_replicate]
theorem chunk_map (w : Nat) (f : UInt8 → UInt8) (l : Bytes) : chunkB w (l.map f) = (chunkB w l).map (List.map f) := by
  unfold chunkB
  rw [List.length_map, List.map_map]
  refine List.map_congr_left fun i _ => ?_
  simp [List.map_drop, List.map_take]
/-- the picture of the inverted run-length form -/
theorem exp_inv {rows : List ByteArray} (h : picE rows = 0) : expA ((encB (runsB (catB rows))).map inv) (widthB rows) = ((rows.map fun r => r.data.toList.map inv), 0) := by
  obtain ⟨_, h2, h3, h4, h5, h6⟩ := pic_len h
  obtain ⟨c1, c2⟩ := pic_cat h
  have hle : (catB rows).length ≤ 40000 := by rw [c2]; exact Nat.mul_le_mul h4 h3
  have hc := cells_runsB (catB rows)
  have hg : GoodR 0 (invR (runsB (catB rows))) := good_inv _ 0 (good_runsB _ h6 (by omega))
  have hci : cellsR (invR (runsB (catB rows))) = (catB rows).map inv := by rw [cells_inv, hc]
  have := expA_yes _ (widthB rows) hg h2 h3 (by rw [hci, List.length_map, c2, Nat.mul_mod_left]) (by rw [hci, List.length_map, c2, Nat.mul_div_cancel _ (by omega)]; exact h4) (by rw [hci, List.length_map, c2]; exact Nat.ne_of_gt (Nat.mul_pos h5 h2))
  rw [enc_inv, this, hci, chunk_map, c1, List.map_map]
  rfl

/-! ### reversal -/
theorem altR_iff : ∀ l : List (Nat × UInt8), AltR l ↔ (∀ x ∈ l, 1 ≤ x.1) ∧ ∀ i (h : i + 1 < l.length), l[i + 1].2 ≠ l[i].2 := by
  intro l
  induction l with
  | nil => exact ⟨fun _ => ⟨fun x hx => (by cases hx), fun i h => absurd h (by simp)⟩, fun _ => trivial⟩
  | cons x r ih =>
    constructor
    · rintro ⟨h1, h2, h3⟩
      obtain ⟨k1, k2⟩ := ih.1 h3
      refine ⟨fun y hy => ?_, fun i h => ?_⟩
      · rcases List.mem_cons.1 hy with rfl | hy
        · exact h1
        · exact k1 y hy
      · cases i with
        | zero =>
          cases r with
          | nil => simp at h
          | cons z r => exact h2 z rfl
        | succ i => exact k2 i (by simpa using h)
    · rintro ⟨k1, k2⟩
      refine ⟨k1 x (by simp), fun y hy => ?_, ih.2 ⟨fun y hy => k1 y (by simp [hy]), fun i h => ?_⟩⟩
      · cases r with
        | nil => cases hy
        | cons z r =>
          simp only [List.head?_cons, Option.some.injEq] at hy
          subst hy
          exact k2 0 (by simp)
      · exact k2 (i + 1) (by simpa using h)
theorem altR_reverse {l : List (Nat × UInt8)} (h : AltR l) : AltR l.reverse := by
  obtain ⟨h1, h2⟩ := (altR_iff l).1 h
  refine (altR_iff _).2 ⟨fun x hx => h1 x (List.mem_reverse.1 hx), fun i hi => ?_⟩
  simp only [List.length_reverse] at hi
  rw [List.getElem_reverse, List.getElem_reverse]
  have := h2 (l.length - 1 - (i + 1)) (by omega)
  intro e
  apply this
  have e1 : l.length - 1 - (i + 1) + 1 = l.length - 1 - i := by omega
  simp only [e1]
  exact e.symm
theorem cells_reverse (rs : List (Nat × UInt8)) : cellsR rs.reverse = (cellsR rs).reverse := by
  induction rs with
  | nil => rfl
  | cons x r ih =>
    rw [List.reverse_cons, cellsR_append, ih, cellsR_cons x r, List.reverse_append, List.reverse_replicate, cellsR_cons x []]
    simp [cellsR]
theorem runsB_reverse (l : Bytes) : runsB l.reverse = (runsB l).reverse := by
  have := runsB_cells _ (altR_reverse (runsB_alt l))
  rw [cells_reverse, cells_runsB] at this
  exact this
/-- the rows reversed, and the characters of each -/
def revRows (rows : List ByteArray) : List ByteArray := rows.reverse.map fun r => BA r.data.toList.reverse
theorem catB_rev (rows : List ByteArray) : catB (revRows rows) = (catB rows).reverse := by
  unfold revRows
  rw [catB_flat, List.map_map, catB_flat, List.reverse_flatten, List.map_map, List.map_reverse]
  rfl
theorem revRows_rev (rows : List ByteArray) : revRows (revRows rows) = rows := by
  unfold revRows
  rw [← List.map_reverse, List.reverse_reverse, List.map_map]
  conv => rhs; rw [← List.map_id rows]
  refine List.map_congr_left fun r _ => ?_
  show BA ((BA r.data.toList.reverse).data.toList).reverse = r
  rw [BA_data, List.reverse_reverse, BA_of]
theorem pic_rev {rows : List ByteArray} (h : picE rows = 0) : picE (revRows rows) = 0 ∧ widthB (revRows rows) = widthB rows := by
  obtain ⟨h1, h2, h3⟩ := pic_facts h
  have hl : (revRows rows).length = rows.length := by simp [revRows]
  refine picE_all (k := widthB rows) (by rw [hl]; cases rows with | nil => exact absurd rfl h1 | cons _ _ => simp) (by rw [hl]; exact h2) (fun r hr => ?_)
  obtain ⟨x, hx, rfl⟩ := List.mem_map.1 hr
  obtain ⟨a, b, c, d⟩ := h3 x (List.mem_reverse.1 hx)
  have e : x.data.toList.length = x.size := rfl
  rw [BA_size, List.length_reverse, e, BA_data, List.all_reverse]
  exact ⟨a, b, c, d⟩
theorem comp_rev {rows : List ByteArray} (h : picE rows = 0) : compZ (revRows rows) = (encB (runsB (catB rows)).reverse, widthB rows, 0) := by
  obtain ⟨h1, h2⟩ := pic_rev h
  unfold compZ
  rw [if_pos h1, h2, catB_rev, runsB_reverse]
theorem pic_rev_ne {rows : List ByteArray} (h : picE rows ≠ 0) : picE (revRows rows) ≠ 0 := by
  intro e
  have := (pic_rev e).1
  rw [revRows_rev] at this
  exact h this

/-- the sequence of runs turned round, byte by byte -/
def turnS : Bytes → Bytes → Bytes → Bytes × Bytes
  | [], tu, ru => (tu, ru)
  | c :: r, tu, ru => if isPx c = true then turnS r (ru ++ [c] ++ tu) [] else turnS r tu (ru ++ [c])
theorem turnS_run (ds : Bytes) (c : UInt8) (r : Bytes) (hd : ∀ x ∈ ds, dgB x = true) (hc : isPx c = true) : ∀ tu ru, turnS (ds ++ c :: r) tu ru = turnS r (ru ++ ds ++ [c] ++ tu) [] := by
  induction ds with
  | nil => intro tu ru; rw [List.nil_append, turnS, if_pos hc]; simp
  | cons d ds ih =>
    intro tu ru
    have hnp : ¬ isPx d = true := fun e => by have := px_dg e; rw [hd d (by simp)] at this; cases this
    rw [List.cons_append, turnS, if_neg hnp, ih (fun x hx => hd x (by simp [hx]))]
    simp
theorem turnS_enc : ∀ (rs : List (Nat × UInt8)) (tu : Bytes), (∀ x ∈ rs, isPx x.2 = true) → turnS (encB rs) tu [] = (encB rs.reverse ++ tu, []) := by
  intro rs
  induction rs with
  | nil => intro tu _; rfl
  | cons x r ih =>
    intro tu h
    have e : encB (x :: r) = decDigits x.1 ++ x.2 :: encB r := by rw [encB_cons]; simp
    rw [e, turnS_run _ _ _ (dec_dig _) (h x (by simp)), ih _ (fun y hy => h y (by simp [hy])), List.reverse_cons]
    simp [encB]
/-- of a picture's runs -/
theorem turn_comp {rows : List ByteArray} (h : picE rows = 0) : turnS (encB (runsB (catB rows)).reverse) [] [] = (encB (runsB (catB rows)), []) := by
  obtain ⟨_, h2, h3, h4, h5, h6⟩ := pic_len h
  obtain ⟨c1, c2⟩ := pic_cat h
  have hle : (catB rows).length ≤ 40000 := by rw [c2]; exact Nat.mul_le_mul h4 h3
  have hg := (good_runsB _ h6 (by omega : (catB rows).length ≤ 99999)).mem
  rw [turnS_enc _ _ (fun x hx => (hg x (List.mem_reverse.1 hx)).2.2), List.reverse_reverse, List.append_nil]
end Go.Proofs.YthanegmaipckdaaDoor
