/- The contracts of the package retention: Active, Held, Allowed. -/
import Derived.Test.YtkbaappeakgnoaaGreatDoorRef31b
namespace Go.Proofs.YtkbaappeakgnoaaGreatDoor
open Go.RowKit Go.Lib
set_option linter.unusedVariables false

theorem Tryz.infoHold : (Tryz.prog.info? 44).map (fun i => (i.zero, i.size, i.bytes)) = some (some (.agg #[.string ByteArray.empty, .int .i64 0]), 2, 24) := by kernel_rfl

/-- a predicate on holds (of the list l), as a function value -/
def PredH (l : List Hold) (g : Nat) (lb : Array Value) (p : Hold → Bool) (w : World) : Prop :=
  (∀ args w, (callFunc g args).run Tryz.prog w = .ok (.enter g args) w) ∧
  ∀ W h, h ∈ l → Ext w W → Calls Tryz.prog g (#[.agg #[.string h.1, .int .i64 h.2]] ++ lb) W fun e w' => e = .returned (.bool (p h)) ∧ Ext W w'

set_option maxHeartbeats 1000000 in
theorem selected_any (g : Nat) (lb : Array Value) (p : Hold → Bool) (A : Option Addr) (n cap : Nat) (l : List Hold) (w : World) (hl : HLst w A n cap l) (hp : PredH l g lb p w) (hr : n * 24 ≤ 140737488351232) :
    Calls Tryz.prog 18 #[.slice A n cap, .func (.func g) #[] lb] w fun e w' => ∃ v, e = .returned v ∧ w'.ownsRow w.heap.size 44 2 v (l.filter p).length (holdCells (l.filter p)) ∧ Ext w w' := by
  obtain ⟨eg, hp⟩ := hp
  obtain ⟨i0, hi, hz0, hz1, hz2⟩ := info_parts Tryz.infoHold
  have HR := Lib.hid hr
  clear hr
  go_enter Tryz.func18, Tryz.ntmps18
  go_wp2_with fail
  go_loopw [5, 10] (fun o i wr => ∃ k : Nat, k ≤ n ∧ i = .int .i64 k ∧ wr.ownsRow w.heap.size 44 2 o ((l.take k).filter p).length (holdCells ((l.take k).filter p)) ∧ Ext w wr) (fun _ i _ => n - (intOf i).toNat)
  case atStart => exact ⟨0, Nat.zero_le _, rfl, ⟨by simp [holdCells], Or.inl ⟨rfl, rfl⟩⟩, Ext.refl _⟩
  case round =>
    obtain ⟨k, hk, rfl, hown, hx⟩ := hrel
    by_cases hlt : k < n
    · obtain ⟨b, off, rfl, hc⟩ := hl.at_ (by omega)
      have hlen := hl.len
      have hkl : k < l.length := by omega
      have hc1 := hx.cell (hc k hkl).1
      have hc2 := hx.cell (hc k hkl).2
      have hcap := hl.room
      have hmax := hl.max
      unfold maxLen at hmax
      obtain ⟨h, hh⟩ : ∃ h, h = l[k] := ⟨_, rfl⟩
      have HM : h ∈ l := by rw [hh]; exact List.getElem_mem hkl
      rw [← hh] at hc1 hc2
      have HH := Lib.hid hh
      clear hh
      have HL := Lib.hid hlen
      have HC := Lib.hid hc
      have HP := Lib.hid hp
      have HO := Lib.hid hown
      clear hlen hc hp hown
      have hfilt : Hid ((l.take (k + 1)).filter p = if p h then (l.take k).filter p ++ [h] else (l.take k).filter p) := by
        show _ = _
        rw [List.take_succ_eq_append_getElem hkl, List.filter_append, ← HH.out]
        by_cases hph : p h = true
        · rw [if_pos hph]; simp [hph]
        · rw [if_neg hph]; simp [hph]
      go_wp2_with fail
      refine (HP.out _ h HM (hx.alloc _)).mono ?_
      rintro e w1 ⟨rfl, hx1⟩
      have hn1 : w1.cell? ⟨wr.heap.size, 0, none⟩ = some (.string h.1) := hx1.cell (by simp)
      have hn2 : w1.cell? ⟨wr.heap.size, 1, none⟩ = some (.int .i64 h.2) := hx1.cell (by simp)
      have hown1 := own_ext (HO.out.alloc (.cells #[.string h.1, .int .i64 h.2] 44)) hx1
      have hx2 := Ext.trans (hx.alloc _) hx1
      have HO1 := Lib.hid hown1
      clear hown1
      by_cases hph : p h = true
      · rw [if_pos hph] at hfilt
        rw [hph]
        clear hph
        go_wp2_with (at_builtin; refine wpList_append_own _ rfl (.tmp 17) (.tmp 19) _ rfl w.heap.size 44 i0 _ 2 24 Tryz.underlying22 hi hz0 hz1 hz2 rfl (by omega) _ _ _ rfl (HO1.out.alloc _) ⟨w1.heap.size, 0, none⟩ 1 1 [.string h.1, .int .i64 h.2] rfl rfl ?c1 ?c2 ?c3 ?c4 ?c5 ?_)
        case c1 =>
          intro j u hu
          match j, hu with
          | 0, hu => simp at hu; subst hu; go_cell
          | 1, hu => simp at hu; subst hu; simp [Addr.add]
        case c2 =>
          intro u hu
          simp at hu
          rcases hu with rfl | rfl <;> rfl
        case c3 =>
          have h1 := List.length_filter_le p (l.take k)
          have h2 := List.length_take_le k l
          unfold maxLen; omega
        case c4 =>
          have h1 := List.length_filter_le p (l.take k)
          have h2 := List.length_take_le k l
          have := HR.out
          omega
        case c5 => have := hx2.size; simp; omega
        intro v' w2 hown2 hgr _
        have hx3 := (hx2.alloc (.cells #[.string h.1, .int .i64 h.2] 44)).grown hgr (fun k hk => (HO1.out.lt k hk).1)
        have HO2 := Lib.hid hown2
        have HG := Lib.hid hgr
        clear hown2 hgr
        go_wp2_with fail
        go_roundw
        case rel =>
          refine ⟨k + 1, by omega, by go_num, ?_, hx3⟩
          rw [hfilt.out, holdCells_snoc, List.length_append]
          exact HO2.out
        case measure => simp [intOf]; omega
      · have hph' : p h = false := by simpa using hph
        rw [if_neg hph] at hfilt
        rw [hph']
        clear hph hph'
        go_wp2_with fail
        go_roundw
        case rel => exact ⟨k + 1, by omega, by go_num, by rw [hfilt.out]; exact HO1.out, hx2⟩
        case measure => simp [intOf]; omega
    · obtain rfl : k = n := by omega
      have hlen := hl.len
      rw [hlen, List.take_length] at hown
      have HO := Lib.hid hown
      clear hown hlen
      go_wp2_with fail
      go_ret
      exact ⟨_, rfl, HO.out, hx⟩

/-- slices.IndexFunc over holds: whether there is one -/
theorem indexH_any (g : Nat) (lb : Array Value) (p : Hold → Bool) (A : Option Addr) (n cap : Nat) (l : List Hold) (w : World) (hl : HLst w A n cap l) (hp : PredH l g lb p w) :
    Calls Tryz.prog 21 #[.slice A n cap, .func (.func g) #[] lb] w fun e w' => ∃ i : Int, e = .returned (.int .i64 i) ∧ decide (0 ≤ i) = l.any p ∧ Ext w w' := by
  obtain ⟨eg, hp⟩ := hp
  have hlen := hl.len
  have hroom := hl.room
  have hmax := hl.max
  unfold maxLen at hmax
  have HL := Lib.hid hlen
  have HP := Lib.hid hp
  clear hlen hp
  go_enter Tryz.func21, Tryz.ntmps21
  go_wp2_with fail
  go_loopw [8] (fun i wr => ∃ k : Nat, k ≤ n ∧ i = .int .i64 k ∧ (l.take k).any p = false ∧ Ext w wr) (fun i _ => n - (intOf i).toNat)
  case atStart => exact ⟨0, Nat.zero_le _, rfl, rfl, Ext.refl _⟩
  case round =>
    obtain ⟨k, hk, rfl, hany, hx⟩ := hrel
    have HA := Lib.hid hany
    clear hany
    by_cases hlt : k < n
    · obtain ⟨b, off, rfl, hc⟩ := hl.at_ (by omega)
      have hkl : k < l.length := by have := HL.out; omega
      have hc1 := hx.cell (hc k hkl).1
      have hc2 := hx.cell (hc k hkl).2
      have HM : l[k] ∈ l := List.getElem_mem hkl
      have hfilt : Hid ((l.take (k + 1)).any p = p l[k]) := by
        show _ = _
        rw [List.take_succ_eq_append_getElem hkl, List.any_append, HA.out]
        simp
      have hfin : Hid (p l[k] = true → l.any p = true) := by
        intro h
        rw [List.any_eq_true]
        exact ⟨l[k], HM, h⟩
      generalize l[k] = h at hc1 hc2 hfilt hfin HM
      have HC := Lib.hid hc
      clear hc
      go_wp2_with fail
      refine (HP.out _ h HM hx).mono ?_
      rintro e w1 ⟨rfl, hx1⟩
      have hx2 := hx.trans hx1
      cases hok : p h
      · go_wp2_with fail
        go_roundw
        case rel => exact ⟨k + 1, by omega, by go_num, by rw [hfilt.out, hok], hx2⟩
        case measure => simp [intOf]; omega
      · clear hx1
        go_wp2_with fail
        go_ret
        exact ⟨_, rfl, by rw [hfin.out hok]; simp, hx2⟩
    · obtain rfl : k = n := by omega
      go_wp2_with fail
      go_ret
      refine ⟨_, rfl, ?_, hx⟩
      have := HA.out
      rw [HL.out, List.take_length] at this
      rw [this]; rfl

theorem containsH_any (g : Nat) (lb : Array Value) (p : Hold → Bool) (A : Option Addr) (n cap : Nat) (l : List Hold) (w : World) (hl : HLst w A n cap l) (hp : PredH l g lb p w) :
    Calls Tryz.prog 25 #[.slice A n cap, .func (.func g) #[] lb] w fun e w' => e = .returned (.bool (l.any p)) ∧ Ext w w' := by
  have H := Lib.hid (indexH_any g lb p A n cap l w hl hp)
  clear hp
  go_enter Tryz.func25, Tryz.ntmps25
  go_wp2_with fail
  refine H.out.mono ?_
  rintro e w' ⟨i, rfl, hi, hx⟩
  have HI := Lib.hid hi
  clear hi
  go_wp2_with fail
  go_ret
  exact ⟨ret_bool HI.out, hx⟩

/-- in force on a date -/
def inForce (date : Int) (h : Hold) : Bool := decide (date ≤ h.2)

theorem inForce_any (date : Int) (b : Nat) (h : Hold) (w : World) (hd : w.cell? ⟨b, 0, none⟩ = some (.int .i64 date)) :
    Calls Tryz.prog 28 #[.agg #[.string h.1, .int .i64 h.2], .pointer (some ⟨b, 0, none⟩)] w fun e w' => e = .returned (.bool (inForce date h)) ∧ Ext w w' := by
  have hb := cell_lt hd
  simp only at hb
  unfold inForce
  go_enter Tryz.func28, Tryz.ntmps28
  go_wp2_with fail
  go_ret
  exact ⟨rfl, (Ext.refl _).alloc _⟩

theorem active_any (date : Int) (A : Option Addr) (n cap : Nat) (l : List Hold) (w : World) (hl : HLst w A n cap l) (hr : n * 24 ≤ 140737488351232) :
    Calls Tryz.prog 12 #[.slice A n cap, .int .i64 date] w fun e w' => ∃ v, e = .returned v ∧ w'.ownsRow (w.heap.size + 1) 44 2 v (l.filter (inForce date)).length (holdCells (l.filter (inForce date))) ∧ Ext w w' := by
  go_enter Tryz.func12, Tryz.ntmps12
  go_wp2_with fail
  refine (selected_any 28 #[.pointer (some ⟨w.heap.size, 0, none⟩)] (inForce date) A n cap l _ (hl.ext ((Ext.refl w).alloc _)) ⟨fun _ _ => by simp [callFunc, go_sem]; rfl, fun W h _ hx => inForce_any date w.heap.size h W (hx.cell (by simp))⟩ hr).mono ?_
  rintro e w1 ⟨v, rfl, hown, hx⟩
  have HO := Lib.hid hown
  clear hown
  go_wp2_with fail
  go_ret
  refine ⟨_, rfl, ?_, ((Ext.refl w).alloc _).trans hx⟩
  have := HO.out
  simpa using this

theorem heldAt_any (p : ByteArray) (b : Nat) (h : Hold) (w : World) (hd : w.cell? ⟨b, 0, none⟩ = some (.string p)) (hp : p.size < 4294967281) (hh : h.1.size < 4294967281) (hE : Env w) :
    Calls Tryz.prog 26 #[.agg #[.string h.1, .int .i64 h.2], .pointer (some ⟨b, 0, none⟩)] w fun e w' => e = .returned (.bool (under p h.1)) ∧ Ext w w' := by
  have hb := cell_lt hd
  simp only at hb
  have hu := fun W (hW : Env W) => under_any p h.1 W hp hh hW
  generalize under p h.1 = r at *
  have HU := Lib.hid hu
  clear hu
  go_enter Tryz.func26, Tryz.ntmps26
  go_wp2_with fail
  refine (HU.out _ (hE.ext ((Ext.refl w).alloc _))).mono ?_
  rintro e w1 ⟨rfl, hx⟩
  go_wp2_with fail
  go_ret
  exact ⟨rfl, ((Ext.refl w).alloc _).trans hx⟩

/-- is a path under a hold that is in force -/
def heldB (l : List Hold) (p : ByteArray) (date : Int) : Bool := l.any fun h => inForce date h && under p h.1

theorem any_filter_held (l : List Hold) (p : ByteArray) (date : Int) : (l.filter (inForce date)).any (fun h => under p h.1) = heldB l p date := by
  unfold heldB
  induction l with
  | nil => rfl
  | cons h l ih =>
    rw [List.filter_cons]
    cases hh : inForce date h <;> simp [hh, ih]

/-- the holds are valid paths' -/
def Short (l : List Hold) : Prop := ∀ h ∈ l, h.1.size ≤ 200

theorem held_any (p : ByteArray) (date : Int) (A : Option Addr) (n cap : Nat) (l : List Hold) (w : World) (hl : HLst w A n cap l) (hr : n * 24 ≤ 140737488351232) (hp : p.size < 4294967281) (hs : Short l) (hE : Env w) :
    Calls Tryz.prog 11 #[.slice A n cap, .string p, .int .i64 date] w fun e w' => e = .returned (.bool (heldB l p date)) ∧ Ext w w' := by
  have hfin := any_filter_held l p date
  have hmem : ∀ h ∈ l.filter (inForce date), h.1.size < 4294967281 := fun h hh => by have := hs h ((List.mem_filter.1 hh).1); omega
  have hact := fun W (hW : HLst W A n cap l) => active_any date A n cap l W hW hr
  generalize heldB l p date = r at *
  generalize l.filter (inForce date) = m at *
  have HF := Lib.hid hfin
  have HM := Lib.hid hmem
  have HACT := Lib.hid hact
  clear hfin hmem hact
  go_enter Tryz.func11, Tryz.ntmps11
  go_wp2_with fail
  have hx0 : Ext w (w.alloc (.cells #[.string p] 9)) := (Ext.refl w).alloc _
  refine (HACT.out _ (hl.ext hx0)).mono ?_
  rintro e w1 ⟨v, rfl, hown, hx⟩
  obtain ⟨B, c1, rfl, hl1⟩ := HLst.of_own hown
  clear hown
  go_wp2_with fail
  refine (containsH_any 26 #[.pointer (some ⟨w.heap.size, 0, none⟩)] (fun h => under p h.1) B m.length c1 m w1 hl1 ⟨fun _ _ => by simp [callFunc, go_sem]; rfl, fun W h hm hxW => ?_⟩).mono ?_
  · have hc : W.cell? ⟨w.heap.size, 0, none⟩ = some (.string p) := hxW.cell (hx.cell (by simp))
    exact heldAt_any p w.heap.size h W hc hp (HM.out h hm) (hE.ext ((hx0.trans hx).trans hxW))
  · rintro e w2 ⟨rfl, hx2⟩
    rw [HF.out]
    go_wp2_with fail
    go_ret
    exact ⟨rfl, (hx0.trans hx).trans hx2⟩

/-- the entry's captured copy: is a hold below its path -/
theorem belowAt_any (p : ByteArray) (b : Nat) (h : Hold) (w : World) (hd : w.cell? ⟨b, 1, none⟩ = some (.string p)) (hp : p.size < 4294967281) (hh : h.1.size < 4294967281) (hE : Env w) :
    Calls Tryz.prog 29 #[.agg #[.string h.1, .int .i64 h.2], .pointer (some ⟨b, 0, none⟩)] w fun e w' => e = .returned (.bool (under h.1 p)) ∧ Ext w w' := by
  have hb := cell_lt hd
  simp only at hb
  have hu := fun W (hW : Env W) => under_any h.1 p W hh hp hW
  generalize under h.1 p = r at *
  have HU := Lib.hid hu
  clear hu
  go_enter Tryz.func29, Tryz.ntmps29
  go_wp2_with fail
  refine (HU.out _ (hE.ext ((Ext.refl w).alloc _))).mono ?_
  rintro e w1 ⟨rfl, hx⟩
  go_wp2_with fail
  go_ret
  exact ⟨rfl, ((Ext.refl w).alloc _).trans hx⟩

def belowB (l : List Hold) (p : ByteArray) (date : Int) : Bool := l.any fun h => inForce date h && under h.1 p

theorem any_filter_below (l : List Hold) (p : ByteArray) (date : Int) : (l.filter (inForce date)).any (fun h => under h.1 p) = belowB l p date := by
  unfold belowB
  induction l with
  | nil => rfl
  | cons h l ih =>
    rw [List.filter_cons]
    cases hh : inForce date h <;> simp [hh, ih]

/-- the answer of Allowed -/
def allowZ (l : List Hold) (kind : Int) (p : ByteArray) (date : Int) : Int :=
  if kind = 1 ∨ kind = 2 ∨ kind = 3 then (if heldB l p date then 15 else 0)
  else if kind = 4 then (if heldB l p date || belowB l p date then 15 else 0) else 0

set_option maxHeartbeats 1000000 in
theorem allowed38_any (kind : Int) (p : ByteArray) (a2 a3 a4 a5 a6 : Value) (date : Int) (A : Option Addr) (n cap : Nat) (l : List Hold) (w : World) (hl : HLst w A n cap l) (hr : n * 24 ≤ 140737488351232) (hp : p.size < 4294967281) (hs : Short l) (hE : Env w) :
    Calls Tryz.prog 14 #[.slice A n cap, .agg #[.int .i64 kind, .string p, a2, a3, a4, a5, a6], .int .i64 date] w fun e w' => e = .returned (.int .i64 (allowZ l kind p date)) ∧ Ext w w' := by
  have hheld := fun W (hW : HLst W A n cap l) (hEW : Env W) => held_any p date A n cap l W hW hr hp hs hEW
  have hact := fun W (hW : HLst W A n cap l) => active_any date A n cap l W hW hr
  have hmem : ∀ h ∈ l.filter (inForce date), h.1.size < 4294967281 := fun h hh => by have := hs h ((List.mem_filter.1 hh).1); omega
  have hfin := any_filter_below l p date
  unfold allowZ
  generalize heldB l p date = r at *
  generalize belowB l p date = q at *
  generalize l.filter (inForce date) = m at *
  have HF := Lib.hid hfin
  have HM := Lib.hid hmem
  have HACT := Lib.hid hact
  have HHELD := Lib.hid hheld
  clear hfin hmem hact hheld
  by_cases hk : kind = 1 ∨ kind = 2 ∨ kind = 3
  · rw [if_pos hk]
    rcases hk with rfl | rfl | rfl
    all_goals
      cases r
      all_goals
        go_enter Tryz.func14, Tryz.ntmps14
        go_wp2_with fail
        refine (HHELD.out _ (hl.ext ((Ext.refl w).alloc _)) (hE.ext ((Ext.refl w).alloc _))).mono ?_
        rintro e w1 ⟨rfl, hx⟩
        go_wp2_with fail
        go_ret
        exact ⟨rfl, ((Ext.refl w).alloc _).trans hx⟩
  · rw [if_neg hk]
    have k1 : (kind == 1) = false := by simp; omega
    have k2 : (kind == 2) = false := by simp; omega
    have k3 : (kind == 3) = false := by simp; omega
    by_cases h4 : kind = 4
    · rw [if_pos h4]
      subst h4
      clear hk k1 k2 k3
      have hx0 : Ext w (w.alloc (.cells #[.int .i64 4, .string p, a2, a3, a4, a5, a6] 32)) := (Ext.refl w).alloc _
      cases r
      · go_enter Tryz.func14, Tryz.ntmps14
        go_wp2_with fail
        refine (HHELD.out _ (hl.ext hx0) (hE.ext hx0)).mono ?_
        rintro e w1 ⟨rfl, hx⟩
        go_wp2_with fail
        refine (HACT.out _ (hl.ext (hx0.trans hx))).mono ?_
        rintro e w2 ⟨v, rfl, hown, hx2⟩
        obtain ⟨B, c1, rfl, hl1⟩ := HLst.of_own hown
        clear hown
        go_wp2_with fail
        refine (containsH_any 29 #[.pointer (some ⟨w.heap.size, 0, none⟩)] (fun h => under h.1 p) B m.length c1 m w2 hl1 ⟨fun _ _ => by simp [callFunc, go_sem]; rfl, fun W h hm hxW => ?_⟩).mono ?_
        · have hc : W.cell? ⟨w.heap.size, 1, none⟩ = some (.string p) := hxW.cell (hx2.cell (hx.cell (by simp)))
          exact belowAt_any p w.heap.size h W hc hp (HM.out h hm) (hE.ext (((hx0.trans hx).trans hx2).trans hxW))
        · rintro e w3 ⟨rfl, hx3⟩
          rw [HF.out]
          cases q
          all_goals
            go_wp2_with fail
            go_ret
            exact ⟨rfl, ((hx0.trans hx).trans hx2).trans hx3⟩
      · go_enter Tryz.func14, Tryz.ntmps14
        go_wp2_with fail
        refine (HHELD.out _ (hl.ext hx0) (hE.ext hx0)).mono ?_
        rintro e w1 ⟨rfl, hx⟩
        go_wp2_with fail
        go_ret
        exact ⟨rfl, hx0.trans hx⟩
    · rw [if_neg h4]
      have k4 : (kind == 4) = false := by simp; omega
      clear hk h4
      go_enter Tryz.func14, Tryz.ntmps14
      go_wp2_with fail
      go_ret
      exact ⟨rfl, (Ext.refl w).alloc _⟩
end Go.Proofs.YtkbaappeakgnoaaGreatDoor
