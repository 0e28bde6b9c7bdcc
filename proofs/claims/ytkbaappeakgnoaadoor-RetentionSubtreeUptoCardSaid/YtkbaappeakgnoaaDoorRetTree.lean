/- The law RetentionSubtree of layer 38 returns true. -/
import Derived.Test.YtkbaappeakgnoaaDoorRetLaw
import Derived.Test.YtkbaappeakgnoaaDoorRetJoin2
namespace Go.Proofs.YtkbaappeakgnoaaDoor
open Go.RowKit Go.Lib
set_option linter.unusedVariables false

def strOf : Value → ByteArray
  | .string s => s
  | _ => ⟨#[]⟩

set_option maxHeartbeats 4000000 in
set_option maxRecDepth 100000 in
theorem subtree_any (p q : ByteArray) (date till : Int) (A : Option Addr) (n cap : Nat) (l : List Hold) (w : World) (hl : HLst w A n cap l) (hz : ∀ h ∈ l, h.1.size ≤ maxLen) (hp : p.size < 4294967281) (hq : q.size < 4294967281) (hE : Env w) :
    Calls Tryd.prog 6 #[.agg #[.slice A n cap, .string p, .string q, .int .i64 date, .int .i64 till]] w fun e w' => e = .returned (.bool true) ∧ Ext w w' := by
  have haw := fun W (hW : Env W) => awake_any W hW
  have hfine := fun B W (hl : HLst W A n cap l) (hps : Lst W B 1 1 ([p].map .string)) (hE : Env W) => fine_any A B n cap 1 1 l [p] W hl hz hps (by intro q hq; simp at hq; subst hq; exact hp) hE
  have HAW := Lib.hid haw
  have HF := Lib.hid hfine
  clear haw hfine
  have hx00 : Ext w (w.alloc (.cells #[.slice A n cap, .string p, .string q, .int .i64 date, .int .i64 till] 41)) := (Ext.refl w).alloc _
  go_enter Tryd.func6, Tryd.ntmps6
  go_wp2_with fail
  go_region
  go_wp2_with fail
  have hx0 : Ext w ((w.alloc (.cells #[.slice A n cap, .string p, .string q, .int .i64 date, .int .i64 till] 41)).alloc (.cells #[.string p] 9)).drew := (hx00.alloc _).drew
  refine (HF.out _ _ (hl.ext hx0) ⟨rfl, Nat.le_refl _, by decide, fun _ => ⟨_, _, rfl, fun i hi => ?_⟩⟩ (hE.ext hx0)).mono ?_
  · obtain rfl : i = 0 := by simp at hi; exact hi
    simp only [Nat.add_zero, List.map_cons, List.getElem_cons_zero]
    go_cell
  rintro e w1 ⟨r, rfl, hr, hx⟩
  have hx1 := hx0.trans hx
  have hl1 := hl.ext hx1
  have hE1 := hE.ext hx1
  clear hx hx0 hx00
  cases r
  · clear hr
    go_wp2_with fail
    refine (HAW.out _ hE1).mono ?_
    rintro e w2 ⟨rfl, hx2⟩
    go_wp2_with fail
    go_ret
    exact ⟨rfl, hx1.trans hx2⟩
  obtain ⟨h12, hg, hck⟩ := hr rfl
  have hs := short_of_good hg
  have hpc := hck p (by simp)
  have hgc : ∀ h ∈ l, chk h.1 = 0 := by
    intro h hh
    obtain ⟨i, hi, rfl⟩ := List.getElem_of_mem hh
    have := (hg i hi).1
    rwa [getD_at l _ hi] at this
  have c1 := fun W (hW : HLst W A n cap l) (hEW : Env W) => held_any p date A n cap l W hW (by omega) hp hs hEW
  have c2 := fun r W (hr : r.size ≤ 10000) (hW : HLst W A n cap l) (hEW : Env W) => held_any r date A n cap l W hW (by omega) (by omega) hs hEW
  have c3 := fun k W (hW : HLst W A n cap l) (hEW : Env W) => allowed38_any k p (.slice none 0 0) (.string ⟨#[]⟩) (.int .i64 0) (.string ⟨#[]⟩) (.slice none 0 0) date A n cap l W hW (by omega) hp hs hEW
  have c4 := fun a W (ha : a.size ≤ 200) (hW : HLst W A n cap l) (hEW : Env W) => allowed38_any 4 a (.slice none 0 0) (.string ⟨#[]⟩) (.int .i64 0) (.string ⟨#[]⟩) (.slice none 0 0) date A n cap l W hW (by omega) (by omega) hs hEW
  have c5 := fun W (hEW : Env W) => pjoin_any p q W hpc hq hEW
  have c6 := fun W (hW : HLst W A n cap l) => active_hl date A n cap l W hW (by omega)
  have hforb : heldB l p date = true → ∀ k : Nat, k < 4 → allowZ l ((k : Int) + 1) p date = 15 := by
    intro h k hk
    exact held_forbidden h (by omega)
  have habove : ∀ x ∈ l.filter (inForce date), ∀ a, Above a x.1 → allowZ l 4 a date = 15 := fun x hx a ha => above_forbidden hx (hgc x (List.mem_filter.1 hx).1) ha
  have hself : ∀ x ∈ l.filter (inForce date), Above x.1 x.1 := fun x hx => Above.refl (hgc x (List.mem_filter.1 hx).1)
  have hjn : ∀ r, heldB l p date = true → chk r = 0 → els r = els p ++ [q] → heldB l r date = true := fun r h1 h2 h3 => heldB_join h1 h2 h3
  have hml : (l.filter (inForce date)).length ≤ 12 := by
    have h1 := List.length_filter_le (inForce date) l
    have := hl1.len
    omega
  generalize l.filter (inForce date) = m at *
  generalize heldB l p date = b1 at *
  have C1 := Lib.hid c1
  have C2 := Lib.hid c2
  have C3 := Lib.hid c3
  have C4 := Lib.hid c4
  have C5 := Lib.hid c5
  have C6 := Lib.hid c6
  have HFO := Lib.hid hforb
  have HAB := Lib.hid habove
  have HSE := Lib.hid hself
  have HJN := Lib.hid hjn
  clear hr hg hck hs hpc hgc c1 c2 c3 c4 c5 c6 hforb habove hself hjn hz
  go_wp2_with fail
  refine (C1.out _ hl1 hE1).mono ?_
  rintro e w2 ⟨rfl, hx2⟩
  go_wp2_with fail
  refine (C5.out _ (hE1.ext hx2)).mono ?_
  rintro e w3 ⟨r, z, rfl, hr0, hrs, hx3⟩
  have hx13 := hx1.trans (hx2.trans hx3)
  have HR0 := Lib.hid hr0
  clear hr0 hx1 hx2 hx3 hl1 hE1
  -- TAIL
  cases b1 with
  | false =>
    by_cases hz0 : z = 0
    · subst hz0
      have hxt := hx13
      clear hx13
      have hBk : Ext w3 (w3.alloc (.cells #[.int .i64 1, .int .i64 2, .int .i64 3, .int .i64 4] 3)) := (Ext.refl w3).alloc _
      have hkind : ∀ k : Nat, k < 4 → (w3.alloc (.cells #[.int .i64 1, .int .i64 2, .int .i64 3, .int .i64 4] 3)).cell? ⟨w3.heap.size, k, none⟩ = some (.int .i64 ((k : Int) + 1)) := by
        intro k hk
        match k, hk with
        | 0, _ => go_cell
        | 1, _ => go_cell
        | 2, _ => go_cell
        | 3, _ => go_cell
      have HKI := Lib.hid hkind
      clear hkind
      go_wp2_with fail
      go_loopw [11, 53] (fun kv i wr => ∃ k : Nat, k ≤ 4 ∧ i = .int .i64 k ∧ Ext (w3.alloc (.cells #[.int .i64 1, .int .i64 2, .int .i64 3, .int .i64 4] 3)) wr) (fun _ i _ => 4 - (intOf i).toNat)
      case atStart => exact ⟨0, Nat.zero_le _, rfl, Ext.refl _⟩
      case round =>
        obtain ⟨k, hk, rfl, hx5⟩ := hrel
        have hx6 := hBk.trans hx5
        by_cases hlt : k < 4
        · have hck := hx5.cell (HKI.out k hlt)
          go_wp2_with fail
          go_roundw
          case rel => exact ⟨k + 1, by omega, by go_num, hx5⟩
          case measure => simp [intOf]; omega
        · obtain rfl : k = 4 := by omega
          have hx7 := hxt.trans hx6
          clear hBk HKI hx5 hx6 hxt
          go_wp2_with fail
          refine (C6.out wr (hl.ext hx7)).mono ?_
          rintro e w6 ⟨v, rfl, hx8, A2, cap2, rfl, hm⟩
          have hx9 := hx7.trans hx8
          have hroom := hm.room
          have hmax := hm.max
          unfold maxLen at hmax
          have HM := Lib.hid hm
          clear hm hx7 hx8
          go_wp2_with fail
          go_loopw [13, 14, 80, 72] (fun hv av pv i wr2 => ∃ k : Nat, k ≤ m.length ∧ i = .int .i64 k ∧ Ext w6 wr2) (fun _ _ _ i _ => m.length - (intOf i).toNat)
          case atStart => exact ⟨0, Nat.zero_le _, rfl, Ext.refl _⟩
          case round =>
            obtain ⟨k, hk, rfl, hx10⟩ := hrel
            by_cases hlt : k < m.length
            · obtain ⟨b, off, rfl, hc⟩ := HM.out.at_ (by omega)
              have hc1 := hx10.cell (hc k hlt).1
              have hc2 := hx10.cell (hc k hlt).2
              have hself := HSE.out m[k] (List.getElem_mem hlt)
              have hab := HAB.out m[k] (List.getElem_mem hlt)
              generalize m[k] = h at *
              obtain ⟨hp1, hd1⟩ := h
              simp only at hc1 hc2 hself hab
              have HC := Lib.hid hc
              have HSF := Lib.hid hself
              have HAV := Lib.hid hab
              clear hc hself hab
              have hx11 : Ext w6 (wr.alloc (.cells #[.string hp1, .int .i64 hd1] 39)) := hx10.alloc _
              go_wp2_with fail
              go_loopw [14, 80] (fun av pv wr3 => ∃ a : ByteArray, av = .string a ∧ Above a hp1 ∧ Ext w6 wr3) (fun av _ _ => (els (strOf av)).length)
              case atStart => exact ⟨hp1, rfl, HSF.out, hx11⟩
              case round =>
                obtain ⟨a, rfl, ha, hx12⟩ := hrel
                have hx13 := hx9.trans hx12
                by_cases ha0 : a.size = 0
                · have g1 : (a.toList = []) := by
                    rw [ByteArray.toList_eq]
                    exact List.eq_nil_of_length_eq_zero ha0
                  clear ha0 ha
                  go_wp2_with fail
                  go_roundw
                  case rel => exact ⟨k + 1, by omega, by go_num, hx12⟩
                  case measure => simp [intOf]; omega
                · have g1 : (a.toList == []) = false := by
                    rw [beq_eq_false_iff_ne, ByteArray.toList_eq]
                    intro h
                    exact ha0 (by have : a.size = a.data.toList.length := rfl; rw [this, h]; rfl)
                  have g1' : ¬ (a.toList = []) := by simpa using g1
                  have hca := ha.1
                  have hC := C4.out a wr (chk_zero hca).1 (hl.ext hx13) (hE.ext hx13)
                  rw [HAV.out a ha] at hC
                  have hP := fun W (hW : Env W) => parent_any a W hca ha0 hW
                  have hless := Lib.hid (par_less hca ha0)
                  have hpar := Lib.hid (ha.par ha0)
                  have HC2 := Lib.hid hC
                  have HP := Lib.hid hP
                  clear hC hP ha ha0 hca
                  go_wp2_with fail
                  refine HC2.out.mono ?_
                  rintro e w7 ⟨rfl, hx14⟩
                  go_wp2_with fail
                  refine (HP.out _ (hE.ext (hx13.trans hx14))).mono ?_
                  rintro e w8 ⟨rfl, hx15⟩
                  generalize par a = a2 at *
                  go_wp2_with fail
                  go_roundw
                  case rel => exact ⟨a2, rfl, hpar.out, (hx12.trans hx14).trans hx15⟩
                  case measure => exact hless.out
            · obtain rfl : k = m.length := by omega
              have hx11 := hx9.trans hx10
              go_wp2_with fail
              refine (HAW.out _ (hE.ext hx11)).mono ?_
              rintro e w7 ⟨rfl, hx12⟩
              go_wp2_with fail
              go_ret
              exact ⟨rfl, hx11.trans hx12⟩
    · have hz1 : (z == 0) = false := beq_eq_false_iff_ne.2 hz0
      have hxt := hx13
      clear hx13 hz0
      have hBk : Ext w3 (w3.alloc (.cells #[.int .i64 1, .int .i64 2, .int .i64 3, .int .i64 4] 3)) := (Ext.refl w3).alloc _
      have hkind : ∀ k : Nat, k < 4 → (w3.alloc (.cells #[.int .i64 1, .int .i64 2, .int .i64 3, .int .i64 4] 3)).cell? ⟨w3.heap.size, k, none⟩ = some (.int .i64 ((k : Int) + 1)) := by
        intro k hk
        match k, hk with
        | 0, _ => go_cell
        | 1, _ => go_cell
        | 2, _ => go_cell
        | 3, _ => go_cell
      have HKI := Lib.hid hkind
      clear hkind
      go_wp2_with fail
      go_loopw [11, 53] (fun kv i wr => ∃ k : Nat, k ≤ 4 ∧ i = .int .i64 k ∧ Ext (w3.alloc (.cells #[.int .i64 1, .int .i64 2, .int .i64 3, .int .i64 4] 3)) wr) (fun _ i _ => 4 - (intOf i).toNat)
      case atStart => exact ⟨0, Nat.zero_le _, rfl, Ext.refl _⟩
      case round =>
        obtain ⟨k, hk, rfl, hx5⟩ := hrel
        have hx6 := hBk.trans hx5
        by_cases hlt : k < 4
        · have hck := hx5.cell (HKI.out k hlt)
          go_wp2_with fail
          go_roundw
          case rel => exact ⟨k + 1, by omega, by go_num, hx5⟩
          case measure => simp [intOf]; omega
        · obtain rfl : k = 4 := by omega
          have hx7 := hxt.trans hx6
          clear hBk HKI hx5 hx6 hxt
          go_wp2_with fail
          refine (C6.out wr (hl.ext hx7)).mono ?_
          rintro e w6 ⟨v, rfl, hx8, A2, cap2, rfl, hm⟩
          have hx9 := hx7.trans hx8
          have hroom := hm.room
          have hmax := hm.max
          unfold maxLen at hmax
          have HM := Lib.hid hm
          clear hm hx7 hx8
          go_wp2_with fail
          go_loopw [13, 14, 80, 72] (fun hv av pv i wr2 => ∃ k : Nat, k ≤ m.length ∧ i = .int .i64 k ∧ Ext w6 wr2) (fun _ _ _ i _ => m.length - (intOf i).toNat)
          case atStart => exact ⟨0, Nat.zero_le _, rfl, Ext.refl _⟩
          case round =>
            obtain ⟨k, hk, rfl, hx10⟩ := hrel
            by_cases hlt : k < m.length
            · obtain ⟨b, off, rfl, hc⟩ := HM.out.at_ (by omega)
              have hc1 := hx10.cell (hc k hlt).1
              have hc2 := hx10.cell (hc k hlt).2
              have hself := HSE.out m[k] (List.getElem_mem hlt)
              have hab := HAB.out m[k] (List.getElem_mem hlt)
              generalize m[k] = h at *
              obtain ⟨hp1, hd1⟩ := h
              simp only at hc1 hc2 hself hab
              have HC := Lib.hid hc
              have HSF := Lib.hid hself
              have HAV := Lib.hid hab
              clear hc hself hab
              have hx11 : Ext w6 (wr.alloc (.cells #[.string hp1, .int .i64 hd1] 39)) := hx10.alloc _
              go_wp2_with fail
              go_loopw [14, 80] (fun av pv wr3 => ∃ a : ByteArray, av = .string a ∧ Above a hp1 ∧ Ext w6 wr3) (fun av _ _ => (els (strOf av)).length)
              case atStart => exact ⟨hp1, rfl, HSF.out, hx11⟩
              case round =>
                obtain ⟨a, rfl, ha, hx12⟩ := hrel
                have hx13 := hx9.trans hx12
                by_cases ha0 : a.size = 0
                · have g1 : (a.toList = []) := by
                    rw [ByteArray.toList_eq]
                    exact List.eq_nil_of_length_eq_zero ha0
                  clear ha0 ha
                  go_wp2_with fail
                  go_roundw
                  case rel => exact ⟨k + 1, by omega, by go_num, hx12⟩
                  case measure => simp [intOf]; omega
                · have g1 : (a.toList == []) = false := by
                    rw [beq_eq_false_iff_ne, ByteArray.toList_eq]
                    intro h
                    exact ha0 (by have : a.size = a.data.toList.length := rfl; rw [this, h]; rfl)
                  have g1' : ¬ (a.toList = []) := by simpa using g1
                  have hca := ha.1
                  have hC := C4.out a wr (chk_zero hca).1 (hl.ext hx13) (hE.ext hx13)
                  rw [HAV.out a ha] at hC
                  have hP := fun W (hW : Env W) => parent_any a W hca ha0 hW
                  have hless := Lib.hid (par_less hca ha0)
                  have hpar := Lib.hid (ha.par ha0)
                  have HC2 := Lib.hid hC
                  have HP := Lib.hid hP
                  clear hC hP ha ha0 hca
                  go_wp2_with fail
                  refine HC2.out.mono ?_
                  rintro e w7 ⟨rfl, hx14⟩
                  go_wp2_with fail
                  refine (HP.out _ (hE.ext (hx13.trans hx14))).mono ?_
                  rintro e w8 ⟨rfl, hx15⟩
                  generalize par a = a2 at *
                  go_wp2_with fail
                  go_roundw
                  case rel => exact ⟨a2, rfl, hpar.out, (hx12.trans hx14).trans hx15⟩
                  case measure => exact hless.out
            · obtain rfl : k = m.length := by omega
              have hx11 := hx9.trans hx10
              go_wp2_with fail
              refine (HAW.out _ (hE.ext hx11)).mono ?_
              rintro e w7 ⟨rfl, hx12⟩
              go_wp2_with fail
              go_ret
              exact ⟨rfl, hx11.trans hx12⟩
  | true =>
    by_cases hz0 : z = 0
    · subst hz0
      obtain ⟨k1, k2⟩ := HR0.out rfl
      have hC := C2.out r w3 hrs (hl.ext hx13) (hE.ext hx13)
      rw [HJN.out r rfl k1 k2] at hC
      have HC0 := Lib.hid hC
      clear hC k1 k2
      go_wp2_with fail
      refine HC0.out.mono ?_
      rintro e w4 ⟨rfl, hx14⟩
      have hxt := hx13.trans hx14
      clear hx13 hx14 HC0
      have hBk : Ext w4 (w4.alloc (.cells #[.int .i64 1, .int .i64 2, .int .i64 3, .int .i64 4] 3)) := (Ext.refl w4).alloc _
      have hkind : ∀ k : Nat, k < 4 → (w4.alloc (.cells #[.int .i64 1, .int .i64 2, .int .i64 3, .int .i64 4] 3)).cell? ⟨w4.heap.size, k, none⟩ = some (.int .i64 ((k : Int) + 1)) := by
        intro k hk
        match k, hk with
        | 0, _ => go_cell
        | 1, _ => go_cell
        | 2, _ => go_cell
        | 3, _ => go_cell
      have HKI := Lib.hid hkind
      clear hkind
      go_wp2_with fail
      go_loopw [11, 53] (fun kv i wr => ∃ k : Nat, k ≤ 4 ∧ i = .int .i64 k ∧ Ext (w4.alloc (.cells #[.int .i64 1, .int .i64 2, .int .i64 3, .int .i64 4] 3)) wr) (fun _ i _ => 4 - (intOf i).toNat)
      case atStart => exact ⟨0, Nat.zero_le _, rfl, Ext.refl _⟩
      case round =>
        obtain ⟨k, hk, rfl, hx5⟩ := hrel
        have hx6 := hBk.trans hx5
        by_cases hlt : k < 4
        · have hck := hx5.cell (HKI.out k hlt)
          have h15 := HFO.out trivial k hlt
          have hC := C3.out ((k : Int) + 1) wr ((hl.ext hxt).ext hx6) ((hE.ext hxt).ext hx6)
          rw [h15] at hC
          have HC := Lib.hid hC
          clear hC h15
          go_wp2_with fail
          refine HC.out.mono ?_
          rintro e w5 ⟨rfl, hx7⟩
          go_wp2_with fail
          go_roundw
          case rel => exact ⟨k + 1, by omega, by go_num, hx5.trans hx7⟩
          case measure => simp [intOf]; omega
        · obtain rfl : k = 4 := by omega
          have hx7 := hxt.trans hx6
          clear hBk HKI hx5 hx6 hxt
          go_wp2_with fail
          refine (C6.out wr (hl.ext hx7)).mono ?_
          rintro e w6 ⟨v, rfl, hx8, A2, cap2, rfl, hm⟩
          have hx9 := hx7.trans hx8
          have hroom := hm.room
          have hmax := hm.max
          unfold maxLen at hmax
          have HM := Lib.hid hm
          clear hm hx7 hx8
          go_wp2_with fail
          go_loopw [13, 14, 80, 72] (fun hv av pv i wr2 => ∃ k : Nat, k ≤ m.length ∧ i = .int .i64 k ∧ Ext w6 wr2) (fun _ _ _ i _ => m.length - (intOf i).toNat)
          case atStart => exact ⟨0, Nat.zero_le _, rfl, Ext.refl _⟩
          case round =>
            obtain ⟨k, hk, rfl, hx10⟩ := hrel
            by_cases hlt : k < m.length
            · obtain ⟨b, off, rfl, hc⟩ := HM.out.at_ (by omega)
              have hc1 := hx10.cell (hc k hlt).1
              have hc2 := hx10.cell (hc k hlt).2
              have hself := HSE.out m[k] (List.getElem_mem hlt)
              have hab := HAB.out m[k] (List.getElem_mem hlt)
              generalize m[k] = h at *
              obtain ⟨hp1, hd1⟩ := h
              simp only at hc1 hc2 hself hab
              have HC := Lib.hid hc
              have HSF := Lib.hid hself
              have HAV := Lib.hid hab
              clear hc hself hab
              have hx11 : Ext w6 (wr.alloc (.cells #[.string hp1, .int .i64 hd1] 39)) := hx10.alloc _
              go_wp2_with fail
              go_loopw [14, 80] (fun av pv wr3 => ∃ a : ByteArray, av = .string a ∧ Above a hp1 ∧ Ext w6 wr3) (fun av _ _ => (els (strOf av)).length)
              case atStart => exact ⟨hp1, rfl, HSF.out, hx11⟩
              case round =>
                obtain ⟨a, rfl, ha, hx12⟩ := hrel
                have hx13 := hx9.trans hx12
                by_cases ha0 : a.size = 0
                · have g1 : (a.toList = []) := by
                    rw [ByteArray.toList_eq]
                    exact List.eq_nil_of_length_eq_zero ha0
                  clear ha0 ha
                  go_wp2_with fail
                  go_roundw
                  case rel => exact ⟨k + 1, by omega, by go_num, hx12⟩
                  case measure => simp [intOf]; omega
                · have g1 : (a.toList == []) = false := by
                    rw [beq_eq_false_iff_ne, ByteArray.toList_eq]
                    intro h
                    exact ha0 (by have : a.size = a.data.toList.length := rfl; rw [this, h]; rfl)
                  have g1' : ¬ (a.toList = []) := by simpa using g1
                  have hca := ha.1
                  have hC := C4.out a wr (chk_zero hca).1 (hl.ext hx13) (hE.ext hx13)
                  rw [HAV.out a ha] at hC
                  have hP := fun W (hW : Env W) => parent_any a W hca ha0 hW
                  have hless := Lib.hid (par_less hca ha0)
                  have hpar := Lib.hid (ha.par ha0)
                  have HC2 := Lib.hid hC
                  have HP := Lib.hid hP
                  clear hC hP ha ha0 hca
                  go_wp2_with fail
                  refine HC2.out.mono ?_
                  rintro e w7 ⟨rfl, hx14⟩
                  go_wp2_with fail
                  refine (HP.out _ (hE.ext (hx13.trans hx14))).mono ?_
                  rintro e w8 ⟨rfl, hx15⟩
                  generalize par a = a2 at *
                  go_wp2_with fail
                  go_roundw
                  case rel => exact ⟨a2, rfl, hpar.out, (hx12.trans hx14).trans hx15⟩
                  case measure => exact hless.out
            · obtain rfl : k = m.length := by omega
              have hx11 := hx9.trans hx10
              go_wp2_with fail
              refine (HAW.out _ (hE.ext hx11)).mono ?_
              rintro e w7 ⟨rfl, hx12⟩
              go_wp2_with fail
              go_ret
              exact ⟨rfl, hx11.trans hx12⟩
    · have hz1 : (z == 0) = false := beq_eq_false_iff_ne.2 hz0
      have hxt := hx13
      clear hx13 hz0
      have hBk : Ext w3 (w3.alloc (.cells #[.int .i64 1, .int .i64 2, .int .i64 3, .int .i64 4] 3)) := (Ext.refl w3).alloc _
      have hkind : ∀ k : Nat, k < 4 → (w3.alloc (.cells #[.int .i64 1, .int .i64 2, .int .i64 3, .int .i64 4] 3)).cell? ⟨w3.heap.size, k, none⟩ = some (.int .i64 ((k : Int) + 1)) := by
        intro k hk
        match k, hk with
        | 0, _ => go_cell
        | 1, _ => go_cell
        | 2, _ => go_cell
        | 3, _ => go_cell
      have HKI := Lib.hid hkind
      clear hkind
      go_wp2_with fail
      go_loopw [11, 53] (fun kv i wr => ∃ k : Nat, k ≤ 4 ∧ i = .int .i64 k ∧ Ext (w3.alloc (.cells #[.int .i64 1, .int .i64 2, .int .i64 3, .int .i64 4] 3)) wr) (fun _ i _ => 4 - (intOf i).toNat)
      case atStart => exact ⟨0, Nat.zero_le _, rfl, Ext.refl _⟩
      case round =>
        obtain ⟨k, hk, rfl, hx5⟩ := hrel
        have hx6 := hBk.trans hx5
        by_cases hlt : k < 4
        · have hck := hx5.cell (HKI.out k hlt)
          have h15 := HFO.out trivial k hlt
          have hC := C3.out ((k : Int) + 1) wr ((hl.ext hxt).ext hx6) ((hE.ext hxt).ext hx6)
          rw [h15] at hC
          have HC := Lib.hid hC
          clear hC h15
          go_wp2_with fail
          refine HC.out.mono ?_
          rintro e w5 ⟨rfl, hx7⟩
          go_wp2_with fail
          go_roundw
          case rel => exact ⟨k + 1, by omega, by go_num, hx5.trans hx7⟩
          case measure => simp [intOf]; omega
        · obtain rfl : k = 4 := by omega
          have hx7 := hxt.trans hx6
          clear hBk HKI hx5 hx6 hxt
          go_wp2_with fail
          refine (C6.out wr (hl.ext hx7)).mono ?_
          rintro e w6 ⟨v, rfl, hx8, A2, cap2, rfl, hm⟩
          have hx9 := hx7.trans hx8
          have hroom := hm.room
          have hmax := hm.max
          unfold maxLen at hmax
          have HM := Lib.hid hm
          clear hm hx7 hx8
          go_wp2_with fail
          go_loopw [13, 14, 80, 72] (fun hv av pv i wr2 => ∃ k : Nat, k ≤ m.length ∧ i = .int .i64 k ∧ Ext w6 wr2) (fun _ _ _ i _ => m.length - (intOf i).toNat)
          case atStart => exact ⟨0, Nat.zero_le _, rfl, Ext.refl _⟩
          case round =>
            obtain ⟨k, hk, rfl, hx10⟩ := hrel
            by_cases hlt : k < m.length
            · obtain ⟨b, off, rfl, hc⟩ := HM.out.at_ (by omega)
              have hc1 := hx10.cell (hc k hlt).1
              have hc2 := hx10.cell (hc k hlt).2
              have hself := HSE.out m[k] (List.getElem_mem hlt)
              have hab := HAB.out m[k] (List.getElem_mem hlt)
              generalize m[k] = h at *
              obtain ⟨hp1, hd1⟩ := h
              simp only at hc1 hc2 hself hab
              have HC := Lib.hid hc
              have HSF := Lib.hid hself
              have HAV := Lib.hid hab
              clear hc hself hab
              have hx11 : Ext w6 (wr.alloc (.cells #[.string hp1, .int .i64 hd1] 39)) := hx10.alloc _
              go_wp2_with fail
              go_loopw [14, 80] (fun av pv wr3 => ∃ a : ByteArray, av = .string a ∧ Above a hp1 ∧ Ext w6 wr3) (fun av _ _ => (els (strOf av)).length)
              case atStart => exact ⟨hp1, rfl, HSF.out, hx11⟩
              case round =>
                obtain ⟨a, rfl, ha, hx12⟩ := hrel
                have hx13 := hx9.trans hx12
                by_cases ha0 : a.size = 0
                · have g1 : (a.toList = []) := by
                    rw [ByteArray.toList_eq]
                    exact List.eq_nil_of_length_eq_zero ha0
                  clear ha0 ha
                  go_wp2_with fail
                  go_roundw
                  case rel => exact ⟨k + 1, by omega, by go_num, hx12⟩
                  case measure => simp [intOf]; omega
                · have g1 : (a.toList == []) = false := by
                    rw [beq_eq_false_iff_ne, ByteArray.toList_eq]
                    intro h
                    exact ha0 (by have : a.size = a.data.toList.length := rfl; rw [this, h]; rfl)
                  have g1' : ¬ (a.toList = []) := by simpa using g1
                  have hca := ha.1
                  have hC := C4.out a wr (chk_zero hca).1 (hl.ext hx13) (hE.ext hx13)
                  rw [HAV.out a ha] at hC
                  have hP := fun W (hW : Env W) => parent_any a W hca ha0 hW
                  have hless := Lib.hid (par_less hca ha0)
                  have hpar := Lib.hid (ha.par ha0)
                  have HC2 := Lib.hid hC
                  have HP := Lib.hid hP
                  clear hC hP ha ha0 hca
                  go_wp2_with fail
                  refine HC2.out.mono ?_
                  rintro e w7 ⟨rfl, hx14⟩
                  go_wp2_with fail
                  refine (HP.out _ (hE.ext (hx13.trans hx14))).mono ?_
                  rintro e w8 ⟨rfl, hx15⟩
                  generalize par a = a2 at *
                  go_wp2_with fail
                  go_roundw
                  case rel => exact ⟨a2, rfl, hpar.out, (hx12.trans hx14).trans hx15⟩
                  case measure => exact hless.out
            · obtain rfl : k = m.length := by omega
              have hx11 := hx9.trans hx10
              go_wp2_with fail
              refine (HAW.out _ (hE.ext hx11)).mono ?_
              rintro e w7 ⟨rfl, hx12⟩
              go_wp2_with fail
              go_ret
              exact ⟨rfl, hx11.trans hx12⟩
end Go.Proofs.YtkbaappeakgnoaaDoor
