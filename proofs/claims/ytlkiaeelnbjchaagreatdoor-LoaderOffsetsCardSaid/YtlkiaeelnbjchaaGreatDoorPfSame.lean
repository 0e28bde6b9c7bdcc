/- Lists of plain frames; the reference's Same at equal lists. (Layer 26) -/
import Derived.Test.YtlkiaeelnbjchaaGreatDoorPfSplit
import Derived.Lib.Hide
namespace Go.Proofs.YtlkiaeelnbjchaaGreatDoor
open Go.RowKit
open Go.Lib hiding intOf
set_option linter.unusedVariables false

structure PLst (w : World) (A : Option Addr) (n cap : Nat) (l : List Pc) : Prop where
  len : n = l.length
  room : n ≤ cap
  max : cap ≤ maxLen
  at_ : 0 < n → ∃ b, A = some ⟨b, 0, none⟩ ∧ ∀ i (h : i < l.length), w.cell? ⟨b, i * 4, none⟩ = some (.int .u32 l[i].arch) ∧ w.cell? ⟨b, i * 4 + 1, none⟩ = some (.int .i64 l[i].index) ∧ w.cell? ⟨b, i * 4 + 2, none⟩ = some (.int .i64 l[i].total) ∧ w.cell? ⟨b, i * 4 + 3, none⟩ = some (.string l[i].text)
theorem PLst.ext {w w' : World} {A : Option Addr} {n cap : Nat} {l : List Pc} (h : PLst w A n cap l) (hx : Ext w w') : PLst w' A n cap l :=
  ⟨h.len, h.room, h.max, fun hn => let ⟨b, hA, hc⟩ := h.at_ hn; ⟨b, hA, fun i hi => ⟨hx.cell (hc i hi).1, hx.cell (hc i hi).2.1, hx.cell (hc i hi).2.2.1, hx.cell (hc i hi).2.2.2⟩⟩⟩
theorem PLst.nil (w : World) : PLst w none 0 0 [] := ⟨rfl, Nat.le_refl _, Nat.zero_le _, fun h => absurd h (Nat.lt_irrefl _)⟩
theorem cellsP_get (l : List Pc) : ∀ (i : Nat) (h : i < l.length), (cellsP l)[i * 4]? = some (.int .u32 l[i].arch) ∧ (cellsP l)[i * 4 + 1]? = some (.int .i64 l[i].index) ∧ (cellsP l)[i * 4 + 2]? = some (.int .i64 l[i].total) ∧ (cellsP l)[i * 4 + 3]? = some (.string l[i].text) := by
  induction l with
  | nil => intro i h; simp at h
  | cons x l ih =>
    intro i h
    match i with
    | 0 => exact ⟨rfl, rfl, rfl, rfl⟩
    | i + 1 =>
      have := ih i (by simpa using h)
      have e : ∀ j, (cellsP (x :: l))[j + 4]? = (cellsP l)[j]? := fun j => rfl
      rw [show (i + 1) * 4 = i * 4 + 4 by omega, show i * 4 + 4 + 1 = (i * 4 + 1) + 4 by omega, show i * 4 + 4 + 2 = (i * 4 + 2) + 4 by omega, show i * 4 + 4 + 3 = (i * 4 + 3) + 4 by omega, e, e, e, e]
      exact this
theorem PLst.of_own {w : World} {base : Nat} {e : TypeId} {v : Value} {l : List Pc} (h : w.ownsRow base e 4 v l.length (cellsP l)) :
    ∃ A cap, v = .slice A l.length cap ∧ PLst w A l.length cap l := by
  have hc := fun g (hg : v.ownBlock = some g) => h.cells hg
  rcases h.2 with ⟨rfl, hn⟩ | ⟨g, cap, cur, rfl, hg, hh, hnc, hm, _⟩
  · obtain rfl : l = [] := List.eq_nil_of_length_eq_zero hn
    exact ⟨none, 0, rfl, PLst.nil w⟩
  · refine ⟨some ⟨g, 0, none⟩, cap, rfl, rfl, hnc, hm, fun hn => ⟨g, rfl, fun i hi => ?_⟩⟩
    have ha : ∀ j, (⟨g, 0, none⟩ : Addr).add j = ⟨g, j, none⟩ := by
      intro j
      unfold Addr.add
      split
      · rename_i h0; rw [h0]
      · show (⟨g, 0 + j, none⟩ : Addr) = _
        rw [Nat.zero_add]
    obtain ⟨k1, k2, k3, k4⟩ := cellsP_get l i hi
    have h1 := hc g rfl _ _ k1
    have h2 := hc g rfl _ _ k2
    have h3 := hc g rfl _ _ k3
    have h4 := hc g rfl _ _ k4
    rw [ha] at h1 h2 h3 h4
    exact ⟨h1, h2, h3, h4⟩
theorem PcPost.open {w w' : World} {l : List Pc} {E : Int} {e : Ending} (h : PcPost w l E e w') :
    ∃ A cap, e = .returned (.tuple #[.slice A l.length cap, .int .i64 E]) ∧ PLst w' A l.length cap l ∧ Ext w w' := by
  obtain ⟨v, rfl, hown, hx⟩ := h
  obtain ⟨A, cap, rfl, hl⟩ := PLst.of_own hown
  exact ⟨A, cap, rfl, hl, hx⟩

theorem pc_neq (a : Nat) (i t : Int) (s : ByteArray) (w : World) :
    (binOp .neq 38 (.agg #[.int .u32 a, .int .i64 i, .int .i64 t, .string s]) (.agg #[.int .u32 a, .int .i64 i, .int .i64 t, .string s])).run Tryz.prog w = .ok (.bool false) w := by
  have hu : Tryz.prog.underlying 38 = some (.struct (Tryz.prog.fieldsOf 38)) := by unfold Program.fieldsOf; rw [Tryz.underlying38]
  rw [run_neq_struct, run_equalIn_struct w 9999 _ _ _ hu (by kernel_rfl)]
  unfold Program.fieldsOf
  rw [Tryz.underlying38]
  simp [Op.eqFields, go_sem, Tryz.underlying9]

set_option maxRecDepth 100000 in
theorem psame_any (A B : Option Addr) (n c d : Nat) (l : List Pc) (w : World) (hl : PLst w A n c l) (hk : PLst w B n d l) :
    Calls Tryz.prog 17 #[.slice A n c, .slice B n d] w fun e w' => e = .returned (.bool true) ∧ Ext w w' := by
  have hlen := hl.len
  have hroom := hl.room
  have hmax := hl.max
  have hroom2 := hk.room
  have hmax2 := hk.max
  unfold maxLen at hmax hmax2
  have HL := Lib.hid hlen
  clear hlen
  go_enter Tryz.func17, Tryz.ntmps17
  go_wp2_with fail
  go_loopw [5] (fun i wr => ∃ j : Nat, j ≤ n ∧ i = .int .i64 j ∧ Ext w wr) (fun i _ => n - (intOf i).toNat)
  case atStart => exact ⟨0, Nat.zero_le _, rfl, Ext.refl _⟩
  case round =>
    obtain ⟨j, hj, rfl, hx⟩ := hrel
    by_cases hlt : j < n
    · obtain ⟨b1, rfl, hc1⟩ := hl.at_ (by omega)
      obtain ⟨b2, rfl, hc2⟩ := hk.at_ (by omega)
      have hj1 : j < l.length := by have := HL.out; omega
      obtain ⟨e1, e2, e3, e4⟩ := hc1 j hj1
      obtain ⟨f1, f2, f3, f4⟩ := hc2 j hj1
      have e1 := hx.cell e1
      have e2 := hx.cell e2
      have e3 := hx.cell e3
      have e4 := hx.cell e4
      have f1 := hx.cell f1
      have f2 := hx.cell f2
      have f3 := hx.cell f3
      have f4 := hx.cell f4
      generalize l[j] = x at *
      obtain ⟨a, i, t, s⟩ := x
      simp only at e1 e2 e3 e4 f1 f2 f3 f4
      have HC1 := Lib.hid hc1
      have HC2 := Lib.hid hc2
      clear hc1 hc2
      have hg : ∀ W, (eqGuard .neq 38 (.tmp 20) (.tmp 24) (.agg #[.int .u32 a, .int .i64 i, .int .i64 t, .string s]) (.agg #[.int .u32 a, .int .i64 i, .int .i64 t, .string s])).run Tryz.prog W = .ok () W := fun W => run_eqGuard_agg W .neq _ _ _ _ _ (by kernel_rfl)
      have hq := pc_neq a i t s
      go_wp2_with fail
      go_quiet (fail)
      go_wp2_with fail
      go_roundw
      case rel => exact ⟨j + 1, by omega, by go_num, hx.drewN _⟩
      case measure => simp [intOf]; omega
    · obtain rfl : j = n := by omega
      go_wp2_with fail
      go_ret
      exact ⟨rfl, hx⟩
end Go.Proofs.YtlkiaeelnbjchaaGreatDoor
