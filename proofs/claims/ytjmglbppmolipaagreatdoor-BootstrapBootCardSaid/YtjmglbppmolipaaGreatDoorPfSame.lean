/- Lists of plain frames; the reference's Same at equal lists. (Layer 26) -/
import Derived.Test.YtjmglbppmolipaaGreatDoorPfSplit
import Derived.Lib.Hide
namespace Go.Proofs.YtjmglbppmolipaaGreatDoor
open Go.RowKit
open Go.Lib hiding intOf
set_option linter.unusedVariables false

structure PLst (w : World) (A : Option Addr) (n cap : Nat) (l : List Pc) : Prop where
  len : n = l.length
  room : n ≤ cap
  max : cap ≤ maxLen
  at_ : 0 < n → ∃ b, A = some ⟨b, 0, none⟩ ∧ ∀ i (h : i < l.length), w.cell? ⟨b, i * 4, none⟩ = some (.int .u32 l[i].arch) ∧ w.cell? ⟨b, i * 4 + 1, none⟩ = some (.int .i64 l[i].index) ∧ w.cell? ⟨b, i * 4 + 2, none⟩ = some (.int .i64 l[i].total) ∧ w.cell? ⟨b, i * 4 + 3, none⟩ = some (.string l[i].text)
theorem PLst.ext {w w' : World} {A : Option Addr} {n cap : Nat} {l : List Pc} (h : PLst w A n cap l) (hx : Ext w w') : PLst w' A n cap l :=
  ⟨h.len, h.room, h.max, fun hn => let ⟨b, hA, hc⟩ := h.at_ hn; ⟨b, hA, fun i hi => ⟨hx.cell (hc i hi).1, hx.cell (hc i hi).2.1, hx.cell (hc i hi).2.2.1, hx.cell (hc i hi).2.2.2⟩⟩⟩
theorem PLst.nil (w : World) : PLst w none 0 0 [] := ⟨rfl, Nat.le_refl _, Nat.zero_le _, fun h => absurd h (Nat.lt_irrefl _)⟩
theorem cellsP_get (l : List Pc) : ∀ (i : Nat) (h : i < l.length), (cellsP l)[i * 4]? = some (.int .u32 l[i].arch) ∧ (cellsP l)[i * 4 + 1]? = some (.int .i64 l[i].index) ∧ (cellsP l)[i * 4 + 2]? = some (.int .i64 l[i].total) ∧ (cellsP l)[i * 4 + 3]? = some (.string l[i].text) := by
  induction l with
  | nil => intro i h; simp at h
  | cons x l ih =>
    intro i h
    match i with
    | 0 => exact ⟨rfl, rfl, rfl, rfl⟩
    | i + 1 =>
      have := ih i (by simpa using h)
      have e : ∀ j, (cellsP (x :: l))[j + 4]? = (cellsP l)[j]? := fun j => rfl
      rw [show (i + 1) * 4 = i * 4 + 4 by omega, show i * 4 + 4 + 1 = (i * 4 + 1) + 4 by omega, show i * 4 + 4 + 2 = (i * 4 + 2) + 4 by omega, show i * 4 + 4 + 3 = (i * 4 + 3) + 4 by omega, e, e, e, e]
      exact this
theorem PLst.of_own {w : World} {base : Nat} {e : TypeId} {v : Value} {l : List Pc} (h : w.ownsRow base e 4 v l.length (cellsP l)) :
    ∃ A cap, v = .slice A l.length cap ∧ PLst w A l.length cap l := by
  have hc := fun g (hg : v.ownBlock = some g) => h.cells hg
  rcases h.2 with ⟨rfl, hn⟩ | ⟨g, cap, cur, rfl, hg, hh, hnc, hm, _⟩
  · obtain rfl : l = [] := List.eq_nil_of_length_eq_zero hn
    exact ⟨none, 0, rfl, PLst.nil w⟩
  · refine ⟨some ⟨g, 0, none⟩, cap, rfl, rfl, hnc, hm, fun hn => ⟨g, rfl, fun i hi => ?_⟩⟩
    have ha : ∀ j, (⟨g, 0, none⟩ : Addr).add j = ⟨g, j, none⟩ := by
      intro j
      unfold Addr.add
      split
      · rename_i h0; rw [h0]
      · show (⟨g, 0 + j, none⟩ : Addr) = _
        rw [Nat.zero_add]
    obtain ⟨k1, k2, k3, k4⟩ := cellsP_get l i hi
    have h1 := hc g rfl _ _ k1
    have h2 := hc g rfl _ _ k2
    have h3 := hc g rfl _ _ k3
    have h4 := hc g rfl _ _ k4
    rw [ha] at h1 h2 h3 h4
    exact ⟨h1, h2, h3, h4⟩
theorem PcPost.open {w w' : World} {l : List Pc} {E : Int} {e : Ending} (h : PcPost w l E e w') :
    ∃ A cap, e = .returned (.tuple #[.slice A l.length cap, .int .i64 E]) ∧ PLst w' A l.length cap l ∧ Ext w w' := by
  obtain ⟨v, rfl, hown, hx⟩ := h
  obtain ⟨A, cap, rfl, hl⟩ := PLst.of_own hown
  exact ⟨A, cap, rfl, hl, hx⟩

theorem pc_neq (a : Nat) (i t : Int) (s : ByteArray) (w : World) :
    (binOp .neq 57 (.agg #[.int .u32 a, .int .i64 i, .int .i64 t, .string s]) (.agg #[.int .u32 a, .int .i64 i, .int .i64 t, .string s])).run Tryz.prog w = .ok (.bool false) w := by
  have hu : Tryz.prog.underlying 57 = some (.struct (Tryz.prog.fieldsOf 57)) := by unfold Program.fieldsOf; rw [Tryz.underlying57]
  rw [run_neq_struct, run_equalIn_struct w 9999 _ _ _ hu (by kernel_rfl)]
  unfold Program.fieldsOf
  rw [Tryz.underlying57]
  simp [Op.eqFields, go_sem, Tryz.underlying9]

end Go.Proofs.YtjmglbppmolipaaGreatDoor
