/- The law BootstrapLoss returns true. (Layer 28) -/
import Derived.Test.YtjmglbppmolipaaGreatDoorBootQ
namespace Go.Proofs.YtjmglbppmolipaaGreatDoor
open Go.RowKit
open Go.Lib hiding intOf
set_option linter.unusedVariables false

theorem pieces_get (s : ByteArray) (arch j : Nat) (h : j < (piecesP s arch).length) : (piecesP s arch)[j] = pieceP s arch j := by simp [piecesP]
theorem stripsL_len (ps : List Pc) : (stripsL ps).length = (ps.length + 3) / 4 := by unfold stripsL; exact stripsN_len _ _
theorem stripsN_take (ps : List Pc) (i K : Nat) (h : i ≤ K) : (stripsN ps K).take i = stripsN ps i := by
  unfold stripsN
  rw [← List.map_take, List.take_range, Nat.min_eq_left h]
theorem framesL_lost (ps : List Pc) (arch i : Nat) (hv : ∀ p ∈ ps, Fit p ∧ p.arch = arch) (hi : i < (ps.length + 3) / 4) :
    framesL ((stripsL ps).take i ++ (stripsL ps).drop (i + 1)) arch = ps.take (4 * i) ++ ps.drop (4 * (i + 1)) := by
  rw [framesL_append]
  have h1 : framesL ((stripsL ps).take i) arch = ps.take (4 * i) := by
    unfold stripsL
    rw [stripsN_take _ _ _ (by omega), framesL_stripsN ps arch hv]
  have h2 : framesL ((stripsL ps).drop (i + 1)) arch = ps.drop (4 * (i + 1)) := by
    have h3 := framesL_strips ps arch hv
    conv at h3 => lhs; rw [← List.take_append_drop (i + 1) (stripsL ps)]
    rw [framesL_append] at h3
    have h4 : framesL ((stripsL ps).take (i + 1)) arch = ps.take (4 * (i + 1)) := by
      unfold stripsL
      rw [stripsN_take _ _ _ (by omega), framesL_stripsN ps arch hv]
    rw [h4] at h3
    conv at h3 => rhs; rw [← List.take_append_drop (4 * (i + 1)) ps]
    exact List.append_cancel_left h3
  rw [h1, h2]
theorem lost_boot (s : ByteArray) (arch i : Nat) (steps : Int) (ha : arch < 4294967296) (hs : s.size ≤ 40000) (hp : prB s.data.toList = true) (hi : i < (totalN s.size + 3) / 4) :
    bootO ((stripsL (piecesP s arch)).take i ++ (stripsL (piecesP s arch)).drop (i + 1)) arch steps = ([], if (totalN s.size + 3) / 4 = 1 then 9 else 19, 0) ∧
    (loadA (framesL ((stripsL (piecesP s arch)).take i ++ (stripsL (piecesP s arch)).drop (i + 1)) arch)).1 = [] := by
  have hf := framesL_lost (piecesP s arch) arch i (pieces_fit s arch ha hs hp) (by rw [pieces_len]; exact hi)
  have hpl := pieces_len s arch
  obtain ⟨T, hT⟩ : ∃ T, T = totalN s.size := ⟨_, rfl⟩
  rw [← hT] at hi hpl ⊢
  unfold bootO
  rw [hf]
  by_cases h1 : (T + 3) / 4 = 1
  · have e : (piecesP s arch).take (4 * i) ++ (piecesP s arch).drop (4 * (i + 1)) = [] := by
      rw [show i = 0 by omega, List.drop_eq_nil_of_le (by rw [hpl]; omega)]
      rfl
    rw [e, if_pos h1]
    exact ⟨rfl, rfl⟩
  · rw [if_neg h1]
    have hset : ∀ x, x ∈ (piecesP s arch).take (4 * i) ++ (piecesP s arch).drop (4 * (i + 1)) ↔ ∃ j, j < totalN s.size ∧ decide (j < 4 * i ∨ 4 * (i + 1) ≤ j) = true ∧ x = pieceP s arch j := by
      intro x
      rw [List.mem_append, ← hT]
      constructor
      · rintro (h | h)
        · obtain ⟨j, hj, rfl⟩ := List.getElem_of_mem h
          rw [List.length_take] at hj
          refine ⟨j, by omega, decide_eq_true (.inl (by omega)), ?_⟩
          rw [List.getElem_take, pieces_get]
        · obtain ⟨j, hj, rfl⟩ := List.getElem_of_mem h
          rw [List.length_drop] at hj
          refine ⟨4 * (i + 1) + j, by omega, decide_eq_true (.inr (by omega)), ?_⟩
          rw [List.getElem_drop, pieces_get]
      · rintro ⟨j, hj, hk, rfl⟩
        have hk := of_decide_eq_true hk
        have hjl : j < (piecesP s arch).length := by omega
        rcases hk with hk | hk
        · left
          refine List.mem_of_getElem? (i := j) ?_
          rw [List.getElem?_take_of_lt hk, List.getElem?_eq_getElem hjl, pieces_get]
        · right
          refine List.mem_of_getElem? (i := j - 4 * (i + 1)) ?_
          rw [List.getElem?_drop, show 4 * (i + 1) + (j - 4 * (i + 1)) = j by omega, List.getElem?_eq_getElem hjl, pieces_get]
    have hne : (piecesP s arch).take (4 * i) ++ (piecesP s arch).drop (4 * (i + 1)) ≠ [] := by
      intro e
      have := congrArg List.length e
      rw [List.length_append, List.length_take, List.length_drop, hpl] at this
      simp at this
      omega
    have hl := loadA_some s arch _ _ hset hne
    have hm : (List.range (totalN s.size)).filter (fun j => !(decide (j < 4 * i ∨ 4 * (i + 1) ≤ j))) ≠ [] := by
      intro e
      have : 4 * i ∈ (List.range (totalN s.size)).filter (fun j => !(decide (j < 4 * i ∨ 4 * (i + 1) ≤ j))) := by
        rw [List.mem_filter]
        refine ⟨List.mem_range.2 (by omega), ?_⟩
        rw [decide_eq_false (by omega)]; rfl
      rw [e] at this
      cases this
    rw [if_neg hm] at hl
    rw [hl]
    exact ⟨rfl, rfl⟩

theorem stripsL_sizes (s : ByteArray) (arch : Nat) (ha : arch < 4294967296) (hs : s.size ≤ 40000) (hp : prB s.data.toList = true) : ∀ x ∈ stripsL (piecesP s arch), x.size ≤ 3072 := by
  intro x hx
  unfold stripsL stripsN at hx
  obtain ⟨k, -, rfl⟩ := List.mem_map.1 hx
  rw [strip_size _ _ (fun p hp' => enc_len (check_ok (pieces_fit s arch ha hs hp p hp').1.ok).2.2.2.2.1)]
  omega
set_option maxRecDepth 100000 in
set_option maxHeartbeats 3200000 in
theorem lawLost_any (s : ByteArray) (arch kk : Nat) (w : World) (hs : s.size ≤ maxLen) (ha : arch < 4294967296) (hkk : kk ≤ 255) (hE : Env w) :
    Calls Tryz.prog 6 #[.string s, .int .u32 arch, .int .u8 kk] w fun e w' => e = .returned (.bool true) ∧ Ext w w' := by
  have HA := Lib.hid (fun W (h : Env W) => alive_any W h)
  have HE := Lib.hid hE
  by_cases h1 : 1000 < s.size
  · have hd : decide ((1000 : Int) < (s.size : Int)) = true := decide_eq_true (by omega)
    clear hE
    go_enter Tryz.func6, Tryz.ntmps6
    go_wp2_with fail
    refine (HA.out _ HE.out).mono ?_
    rintro e w1 ⟨rfl, hx1⟩
    go_wp2_with fail
    go_ret
    exact ⟨rfl, hx1⟩
  have hd : decide ((1000 : Int) < (s.size : Int)) = false := decide_eq_false (by omega)
  have hS := fun W (h : Env W) => strips_any s arch W hs ha h
  rcases splitA_cases s arch with ⟨e1, e2⟩ | ⟨h40, hp, hsa⟩
  · rw [e1] at hS
    have hE2 : ((splitA s arch).2 != 0) = true := by simpa using e2
    have HS := Lib.hid hS
    generalize (splitA s arch).2 = E at *
    clear hS e1 e2 hE
    go_enter Tryz.func6, Tryz.ntmps6
    go_wp2_with fail
    refine (HA.out _ HE.out).mono ?_
    rintro e w1 ⟨rfl, hx1⟩
    go_wp2_with fail
    refine (HS.out _ (HE.out.ext hx1)).mono ?_
    rintro e w2 ⟨v, rfl, hown, hx2⟩
    obtain ⟨A, c, rfl, hl⟩ := Lst.of_own (show w2.ownsRow w1.heap.size 9 1 v 0 [] from hown)
    have hxx := hx1.trans hx2
    clear hown hl hx1 hx2
    go_wp2_with fail
    go_ret
    exact ⟨rfl, hxx⟩
  · rw [hsa] at hS
    have hlen := stripsL_len (piecesP s arch)
    rw [pieces_len] at hlen
    have hzz := stripsL_sizes s arch ha h40 hp
    have hlb := fun i steps hi => lost_boot s arch i steps ha h40 hp hi
    obtain ⟨n, hn⟩ : ∃ n, n = (totalN s.size + 3) / 4 := ⟨_, rfl⟩
    have hn5 : n ≤ 5 := by rw [hn]; unfold totalN; omega
    rw [← hn] at hlen hlb
    simp only at hS
    generalize stripsL (piecesP s arch) = rows at *
    have HS := Lib.hid hS
    have HLEN := Lib.hid hlen
    have HZ := Lib.hid hzz
    have HLB := Lib.hid hlb
    clear hS hsa hlen hzz hlb hn hE
    by_cases h0 : n = 0
    · subst h0
      go_enter Tryz.func6, Tryz.ntmps6
      go_wp2_with fail
      refine (HA.out _ HE.out).mono ?_
      rintro e w1 ⟨rfl, hx1⟩
      go_wp2_with fail
      refine (HS.out _ (HE.out.ext hx1)).mono ?_
      rintro e w2 ⟨v, rfl, hown, hx2⟩
      obtain ⟨A, c, rfl, hl⟩ := Lst.of_own hown
      have hxx := hx1.trans hx2
      clear hown hl hx1 hx2
      rw [HLEN.out]
      go_wp2_with fail
      go_ret
      exact ⟨rfl, hxx⟩
    · obtain ⟨i, hi⟩ : ∃ i, i = kk % n := ⟨_, rfl⟩
      have hin : i < n := by rw [hi]; exact Nat.mod_lt _ (by omega)
      have hrem : (kk : Int) % (n : Int) = (i : Int) := by rw [hi]; rfl
      have hrem2 : (kk : Int).tmod (n : Int) = (i : Int) := by rw [hi]; rfl
      have hn0 : ((n : Int) == 0) = false := by simp; omega
      have HI := Lib.hid hin
      clear hi
      go_enter Tryz.func6, Tryz.ntmps6
      go_wp2_with fail
      refine (HA.out _ HE.out).mono ?_
      rintro e w1 ⟨rfl, hx1⟩
      go_wp2_with fail
      refine (HS.out _ (HE.out.ext hx1)).mono ?_
      rintro e w2 ⟨v, rfl, hown, hx2⟩
      obtain ⟨A, c, rfl, hl⟩ := Lst.of_own (show w2.ownsRow w1.heap.size 9 1 v n (rows.map Value.string) from by have h := hown; rw [HLEN.out] at h; exact h)
      have hxx := hx1.trans hx2
      have hr := hl.room
      have hm := hl.max
      unfold maxLen at hm
      obtain ⟨q, off, rfl, hc⟩ := hl.at_ (by omega)
      have HL := Lib.hid hl
      clear hown hl hx1 hx2 hc
      go_wp2_with fail
      obtain ⟨A3, c3, hA3, hA3n, hl3⟩ : ∃ A3 c3, ((c = i + 1 ∧ A3 = some ⟨q, off, none⟩ ∧ c3 = 0) ∨ (c ≠ i + 1 ∧ A3 = some ⟨q, off + (i + 1), none⟩ ∧ c3 = c - (i + 1))) ∧ (∃ p, A3 = some p ∧ p.block = q) ∧ Lst w2 A3 (n - (i + 1)) c3 ((rows.drop (i + 1)).map Value.string) := by
        by_cases hcap : c = i + 1
        · refine ⟨_, _, .inl ⟨hcap, rfl, rfl⟩, ⟨_, rfl, rfl⟩, ?_⟩
          have hd : rows.drop (i + 1) = [] := List.drop_eq_nil_of_le (by rw [HLEN.out]; omega)
          rw [hd]
          exact ⟨by simp; omega, by omega, Nat.zero_le _, fun h => absurd h (by omega)⟩
        · refine ⟨_, _, .inr ⟨hcap, rfl, rfl⟩, ⟨_, rfl, rfl⟩, ?_⟩
          rw [List.map_drop]
          exact HL.out.drop (i + 1) (by omega)
      have HL3 := Lib.hid hl3
      have HA3 := Lib.hid hA3n
      have HL1 := Lib.hid (HL.out.take i (by omega))
      clear hl3 hA3n
      have h8 : ∀ W, Sem.run Tryz.prog (Instr.slice 22 (.slice (some ⟨q, off, none⟩) n c) (some (.int .i64 ((i : Int) + 1))) none none) W = .ok (.slice A3 (n - (i + 1)) c3) W := by
        intro W
        rcases hA3 with ⟨k1, rfl, rfl⟩ | ⟨k1, rfl, rfl⟩
        all_goals
          go_simp
          intro h
          have := h (by omega)
          omega
      refine wp_region_any (by kernel_rfl) ?_
      change wpAny _ _ _ _ _ _ _ (World.drew _)
      refine wpAny_take (i := 1) (v := .slice (some ⟨q, off, none⟩) n c) rfl (by kernel_rfl) (by kernel_rfl) (by kernel_rfl) (fun _ _ _ h => h) (Or.inl ⟨by rfl, ?_⟩) ?_
      · intro w; go_simp
      refine wpAny_take (i := 2) (v := .int .i64 (i : Int)) rfl (by kernel_rfl) (by kernel_rfl) (by kernel_rfl) (fun _ _ _ h => h) (Or.inl ⟨by rfl, ?_⟩) ?_
      · intro w; go_simp
      refine wpAny_take (i := 3) (v := .slice (some ⟨q, off, none⟩) i c) rfl (by kernel_rfl) (by kernel_rfl) (by kernel_rfl) (fun _ _ _ h => h) (Or.inl ⟨by rfl, ?_⟩) ?_
      · intro w; go_simp; intro h; omega
      refine wpAny_take (i := 5) (v := .slice (some ⟨q, off, none⟩) n c) rfl (by kernel_rfl) (by kernel_rfl) (by kernel_rfl) (fun _ _ _ h => h) (Or.inl ⟨by rfl, ?_⟩) ?_
      · intro w; go_simp
      refine wpAny_take (i := 6) (v := .int .i64 (i : Int)) rfl (by kernel_rfl) (by kernel_rfl) (by kernel_rfl) (fun _ _ _ h => h) (Or.inl ⟨by rfl, ?_⟩) ?_
      · intro w; go_simp
      refine wpAny_take (i := 7) (v := .int .i64 ((i : Int) + 1)) rfl (by kernel_rfl) (by kernel_rfl) (by kernel_rfl) (fun _ _ _ h => h) (Or.inl ⟨by rfl, ?_⟩) ?_
      · intro w; go_simp; exact IntWalk.i64_in _ (by omega)
      refine wpAny_take (i := 8) (v := .slice A3 (n - (i + 1)) c3) rfl (by kernel_rfl) (by kernel_rfl) (by kernel_rfl) (fun _ _ _ h => h) (Or.inl ⟨by rfl, ?_⟩) ?_
      · intro w; go_simp
      refine wpAny_ready (rs := [0]) (by kernel_rfl) (by simp) ?_
      refine AllReady.cons rfl (fun K hK => ?_) AllReady.nil
      go_simp
      refine hK _ _ ?_
      clear hK K
      refine wpAny_ready (rs := [4]) (by kernel_rfl) (by simp) ?_
      refine AllReady.cons rfl (fun K hK => ?_) AllReady.nil
      refine step_append_lst (by rfl) (.tmp 38) (.tmp 41) (by rfl) w2.heap.size (.slice (some ⟨w2.heap.size, 0, none⟩) 0 0) 0 [] (by rfl) (own_empty w2.drew w2.heap.size _ 1 (Nat.le_refl _)) (some ⟨q, off, none⟩) i c (rows.take i) (by rfl) (fun h => by cases h) ?_ (by omega) (by simp) ?_
      · have h := HL1.out.ext (((Ext.refl w2).alloc (.cells #[] 9)).drew)
        rw [← List.map_take] at h
        exact h
      intro va wa howa hgra
      refine hK _ _ ?_
      clear hK K
      have hx2a : Ext w2 wa := Ext.grown (((Ext.refl w2).alloc (.cells #[] 9)).drew) hgra (fun k e => by cases e; exact Nat.le_refl _)
      have HOa : Hid (wa.ownsRow w2.heap.size 9 1 va i ((rows.take i).map Value.string)) := by
        have h := howa
        rw [Nat.zero_add, List.nil_append] at h
        exact h
      clear howa hgra
      refine wpAny_ready (rs := [9]) (by kernel_rfl) (by simp) ?_
      refine AllReady.cons rfl (fun K hK => ?_) AllReady.nil
      refine step_append_lst (by rfl) (.tmp 42) (.tmp 46) (by rfl) w2.heap.size va i _ (by rfl) HOa.out A3 (n - (i + 1)) c3 (rows.drop (i + 1)) (by rfl) (fun h => by obtain ⟨p, hp, -⟩ := HA3.out; rw [h] at hp; cases hp) (HL3.out.ext hx2a) (by omega) hx2a.size ?_
      intro vb wb howb hgrb
      refine hK _ _ ?_
      clear hK K
      have hx2b : Ext w2 wb := hx2a.grown hgrb (fun k e => (HOa.out.lt k e).1)
      have HOb : Hid (wb.ownsRow w2.heap.size 9 1 vb (n - 1) ((rows.take i ++ rows.drop (i + 1)).map Value.string)) := by
        have h := howb
        rw [← List.map_append, show i + (n - (i + 1)) = n - 1 by omega] at h
        exact h
      clear howb hgrb hx2a
      refine wpAny_ready (rs := [10]) (by kernel_rfl) (by simp) ?_
      refine AllReady.cons rfl (fun K hK => ?_) AllReady.nil
      go_simp
      refine hK _ _ ?_
      clear hK K
      refine wpAny_done (by kernel_rfl) ?_ _
      obtain ⟨Al, cl, rfl, hll⟩ := Lst.of_own HOb.out
      have hrl := hll.room
      have hml := hll.max
      unfold maxLen at hml
      have hlen1 : (rows.take i ++ rows.drop (i + 1)).length = n - 1 := by rw [List.length_append, List.length_take, List.length_drop, HLEN.out]; omega
      have hall : ∀ x ∈ rows.take i ++ rows.drop (i + 1), x.size ≤ 3072 := fun x hx => by
        rcases List.mem_append.1 hx with hx | hx
        · exact HZ.out x (List.mem_of_mem_take hx)
        · exact HZ.out x (List.mem_of_mem_drop hx)
      have hin1 := inputL_bound _ arch 3072 hall
      have hfr1 := framesL_bound _ arch 3072 hall
      obtain ⟨hb1, hb2⟩ := HLB.out i 1000 HI.out
      rw [hlen1] at hin1 hfr1
      have hB := boot_any Al (n - 1) cl arch _ 1000 wb (HE.out.ext (hxx.trans hx2b)) ha hll (fun x hx => by have := hall x hx; omega) (by omega) (by omega) (by rw [hb2]; exact Nat.zero_le _)
      rw [hb1] at hB
      have hxb := hxx.trans hx2b
      clear hll hall hin1 hfr1 hb1 hb2 hlen1 hx2b hxx HOb HOa HL HL1 HL3 HA3 hA3 h8
      obtain ⟨m, hm1⟩ : ∃ m, m = n - 1 := ⟨_, rfl⟩
      rw [← hm1] at hrl hB ⊢
      have hq := fun s => out_eq s
      by_cases hn1 : n = 1
      · rw [if_pos hn1] at hB
        have hm0 : m = 0 := by omega
        have HB : Hid (Calls Tryz.prog 19 #[.slice Al 0 cl, .int .u32 arch, .int .i64 1000] wb fun e w' => e = .returned (.agg #[.string ⟨#[]⟩, .int .i64 9, .int .i64 0]) ∧ Ext wb w') := by
          have h := hB
          rw [hm0] at h
          exact h
        rw [hm0]
        clear hB hm0 hm1
        go_wp2_with fail
        refine HB.out.mono ?_
        rintro e w5 ⟨rfl, hx5⟩
        have hxy := hxb.trans hx5
        go_wp2_with fail
        go_ret
        exact ⟨rfl, hxy⟩
      · rw [if_neg hn1] at hB
        have hmz : ((m : Int) == 0) = false := by simp; omega
        have HB : Hid (Calls Tryz.prog 19 #[.slice Al m cl, .int .u32 arch, .int .i64 1000] wb fun e w' => e = .returned (.agg #[.string ⟨#[]⟩, .int .i64 19, .int .i64 0]) ∧ Ext wb w') := hB
        clear hB hm1
        go_wp2_with fail
        refine HB.out.mono ?_
        rintro e w5 ⟨rfl, hx5⟩
        have hxy := hxb.trans hx5
        go_wp2_with fail
        go_ret
        exact ⟨rfl, hxy⟩
end Go.Proofs.YtjmglbppmolipaaGreatDoor
