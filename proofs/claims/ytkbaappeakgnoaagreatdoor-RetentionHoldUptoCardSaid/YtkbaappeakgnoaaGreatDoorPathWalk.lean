/- The contracts of the package pathname: they return what the functions of the path specification say; new memory is made, nothing that was there changes. -/
import Derived.Test.YtkbaappeakgnoaaGreatDoorMem
import Derived.Test.YtkbaappeakgnoaaGreatDoorPathSpec
import Derived.Test.YtkbaappeakgnoaaGreatDoorShelf
namespace Go.Proofs.YtkbaappeakgnoaaGreatDoor
open Go.RowKit Go.Lib
set_option linter.unusedVariables false

/-- the library's variable MaxLen holds some number -/
def Env (w : World) : Prop := ∃ m : Int, w.cell? ⟨4, 0, none⟩ = some (.int .i64 m)
theorem Env.ext {w w' : World} (h : Env w) (hx : Ext w w') : Env w' := let ⟨m, hm⟩ := h; ⟨m, hx.cell hm⟩

theorem ret_bool {a b : Bool} (h : a = b) : Ending.returned (.bool a) = .returned (.bool b) := by rw [h]

theorem allowed_any (c : Nat) (hc : c ≤ 2147483647) (w : World) :
    Calls Tryz.prog 50 #[.int .i32 (c : Int)] w fun e w' => e = .returned (.bool (okC c)) ∧ w = w' := by
  go_enter Tryz.func50, Tryz.ntmps50
  go_wp2
  all_goals go_ret
  all_goals refine ⟨ret_bool (?_ : _ = okC c), rfl⟩
  all_goals (unfold okC; rw [Bool.eq_iff_iff]; simp; omega)

theorem notAllowed_any (c : Nat) (hc : c ≤ 2147483647) (w : World) :
    Calls Tryz.prog 49 #[.int .i32 (c : Int)] w fun e w' => e = .returned (.bool (!okC c)) ∧ w = w' := by
  have h := allowed_any c hc w
  generalize okC c = b at h ⊢
  have H := Lib.hid h
  clear h
  go_enter Tryz.func49, Tryz.ntmps49
  go_wp2_with fail
  refine H.out.mono ?_
  rintro e w' ⟨rfl, rfl⟩
  go_wp2_with fail
  go_ret
  exact ⟨rfl, rfl⟩

theorem notAllowed_grows (w : World) : PredGrows Tryz.prog 49 #[] (fun x => !okC x) w := by
  intro W x hx hb
  exact (notAllowed_any x (by omega) W).mono fun e w' ⟨he, hw⟩ => ⟨he, hw ▸ Below.refl _ _⟩

theorem hasBad_any (s : ByteArray) (w : World) :
    Calls Tryz.prog 48 #[.string s, .func (.func 49) #[] #[]] w fun e w' => e = .returned (.bool (!s.data.toList.all fun b => okC b.toNat)) ∧ Ext w w' := by
  have h := Tryz.strings_ContainsFunc_grows 49 #[] (fun _ _ => by simp [callFunc, go_sem]; rfl) (fun x => !okC x) s w (notAllowed_grows w)
  rw [idx_ok] at h
  exact h

theorem component_any (s : ByteArray) (w : World) (hs : s.size ≤ maxLen) :
    Calls Tryz.prog 35 #[.string s] w fun e w' => e = .returned (.bool (okComp s)) ∧ Ext w w' := by
  unfold maxLen at hs
  have hc := fun W => hasBad_any s W
  unfold okComp
  generalize (s.data.toList.all fun b => okC b.toNat) = good at hc ⊢
  have HC := Lib.hid hc
  clear hc
  by_cases h1 : 1 ≤ (s.size : Int)
  · have g1 : decide (1 ≤ s.size) = true := decide_eq_true (by omega)
    by_cases h2 : (s.size : Int) ≤ 32
    · have g2 : decide (s.size ≤ 32) = true := decide_eq_true (by omega)
      rw [g1, g2]
      cases h3 : (s.toList == [46])
      · cases h4 : (s.toList == [46, 46])
        · have H1 := Lib.hid g1
          have H2 := Lib.hid g2
          clear g1 g2
          go_enter Tryz.func35, Tryz.ntmps35
          go_wp2_with fail
          refine (HC.out _).mono ?_
          rintro e w1 ⟨rfl, hx⟩
          go_wp2_with fail
          go_ret
          exact ⟨ret_bool (by simp), hx⟩
        · clear g1 g2
          go_enter Tryz.func35, Tryz.ntmps35
          go_wp2_with fail
          go_ret
          exact ⟨ret_bool (by simp), Ext.refl _⟩
      · clear g1 g2
        go_enter Tryz.func35, Tryz.ntmps35
        go_wp2_with fail
        go_ret
        exact ⟨ret_bool (by simp), Ext.refl _⟩
    · have g2 : decide (s.size ≤ 32) = false := decide_eq_false (by omega)
      rw [g2]
      clear g1 g2
      go_enter Tryz.func35, Tryz.ntmps35
      go_wp2_with fail
      go_ret
      exact ⟨ret_bool (by simp), Ext.refl _⟩
  · have g1 : decide (1 ≤ s.size) = false := decide_eq_false (by omega)
    rw [g1]
    clear g1
    go_enter Tryz.func35, Tryz.ntmps35
    go_wp2_with fail
    go_ret
    exact ⟨ret_bool (by simp), Ext.refl _⟩

theorem badComp_any (s : ByteArray) (w : World) (hs : s.size ≤ maxLen) :
    Calls Tryz.prog 34 #[.string s] w fun e w' => e = .returned (.bool (!okComp s)) ∧ Ext w w' := by
  have h := component_any s w hs
  generalize okComp s = b at h ⊢
  have H := Lib.hid h
  clear h
  go_enter Tryz.func34, Tryz.ntmps34
  go_wp2_with fail
  refine H.out.mono ?_
  rintro e w' ⟨rfl, hx⟩
  go_wp2_with fail
  go_ret
  exact ⟨rfl, hx⟩

/-- slices.ContainsFunc over strings, at the predicate 'no component' -/
theorem hasBadComp_any (A : Option Addr) (n cap : Nat) (l : List ByteArray) (w : World) (hl : Lst w A n cap (l.map .string)) (hs : ∀ x ∈ l, x.size ≤ maxLen) :
    Calls Tryz.prog 33 #[.slice A n cap, .func (.func 34) #[] #[]] w fun e w' => e = .returned (.bool (!l.all okComp)) ∧ Ext w w' := by
  have hidx : Calls Tryz.prog 47 #[.slice A n cap, .func (.func 34) #[] #[]] w fun e w' => ∃ i : Int, e = .returned (.int .i64 i) ∧ decide (0 ≤ i) = (!l.all okComp) ∧ Ext w w' := by
    have hlen : n = l.length := by simpa using hl.len
    have hroom := hl.room
    have hmax := hl.max
    unfold maxLen at hmax
    have HL := Lib.hid hlen
    have HS := Lib.hid hs
    clear hlen hs
    go_enter Tryz.func47, Tryz.ntmps47
    go_wp2_with fail
    go_loopw [8] (fun i wr => ∃ k : Nat, k ≤ n ∧ i = .int .i64 k ∧ (l.take k).all okComp = true ∧ Ext w wr) (fun i _ => n - (intOf i).toNat)
    case atStart => exact ⟨0, Nat.zero_le _, rfl, rfl, Ext.refl _⟩
    case round =>
      obtain ⟨k, hk, rfl, hall, hx⟩ := hrel
      have HA := Lib.hid hall
      clear hall
      by_cases hlt : k < n
      · obtain ⟨b, off, rfl, hc⟩ := hl.at_ (by omega)
        have hkl : k < l.length := by have := HL.out; omega
        have hc1 := hx.cell (hc k (by simpa using hkl))
        simp only [List.getElem_map] at hc1
        have hsz := HS.out l[k] (List.getElem_mem hkl)
        have hfilt : Hid ((l.take (k + 1)).all okComp = okComp l[k]) := by
          show _ = _
          rw [List.take_succ_eq_append_getElem hkl, List.all_append, HA.out]
          simp
        have hfin : Hid (okComp l[k] = false → l.all okComp = false) := by
          intro h
          rw [List.all_eq_false]
          exact ⟨l[k], List.getElem_mem hkl, by simp [h]⟩
        generalize l[k] = x at hc1 hsz hfilt hfin
        have HC := Lib.hid hc
        clear hc
        go_wp2_with fail
        refine (badComp_any x _ hsz).mono ?_
        rintro e w1 ⟨rfl, hx1⟩
        have hx2 := hx.trans hx1
        cases hok : okComp x
        · clear hx1
          go_wp2_with fail
          go_ret
          exact ⟨_, rfl, by rw [hfin.out hok]; simp, hx2⟩
        · go_wp2_with fail
          go_roundw
          case rel => exact ⟨k + 1, by omega, by go_num, by rw [hfilt.out, hok], hx2⟩
          case measure => simp [intOf]; omega
      · obtain rfl : k = n := by omega
        go_wp2_with fail
        go_ret
        refine ⟨_, rfl, ?_, hx⟩
        have := HA.out
        rw [HL.out, List.take_length] at this
        rw [this]; rfl
  have H := Lib.hid hidx
  clear hidx
  go_enter Tryz.func33, Tryz.ntmps33
  go_wp2_with fail
  refine H.out.mono ?_
  rintro e w' ⟨i, rfl, hi, hx⟩
  have HI := Lib.hid hi
  clear hi
  go_wp2_with fail
  go_ret
  exact ⟨ret_bool HI.out, hx⟩

theorem elements_any (s : ByteArray) (w : World) (hs : s.size < 4294967281) (hE : Env w) :
    Calls Tryz.prog 32 #[.string s] w fun e w' => ∃ A cap, e = .returned (.slice A (els s).length cap) ∧ Lst w' A (els s).length cap ((els s).map .string) ∧ Ext w w' := by
  by_cases h0 : s.size = 0
  · have h1 : (s.toList = []) := by
      rw [ByteArray.toList_eq]
      exact List.eq_nil_of_length_eq_zero h0
    have he : els s = [] := by unfold els; rw [if_pos h0]
    rw [he]
    clear he h0
    go_enter Tryz.func32, Tryz.ntmps32
    go_wp2_with fail
    go_ret
    exact ⟨none, 0, rfl, Lst.nil w, Ext.refl _⟩
  · have h1 : (s.toList == []) = false := by
      rw [beq_eq_false_iff_ne, ByteArray.toList_eq]
      intro h
      exact h0 (by have : s.size = s.data.toList.length := rfl; rw [this, h]; rfl)
    have h1' : ¬ (s.toList = []) := by simpa using h1
    have he : els s = splitB slash 0 (countB s slash) s := by unfold els; rw [if_neg h0]
    have hlen : (splitB slash 0 (countB s slash) s).length = countB s slash + 1 := splitB_all slash (by decide) 0 _ s rfl
    have hle := els_length s
    rw [he, hlen] at hle
    have hlen' := hlen
    obtain ⟨m, hm⟩ := hE
    have hsp := Tryz.strings_Split s slash m w hs hm (by decide)
    rw [he]
    unfold slash at *
    generalize hN : countB s ⟨#[47]⟩ + 1 = N at *
    generalize splitB ⟨#[47]⟩ 0 (countB s ⟨#[47]⟩) s = l at *
    have H := Lib.hid hsp
    have HL := Lib.hid hlen
    clear hsp hN he h0 hlen hlen' hm
    go_enter Tryz.func32, Tryz.ntmps32
    go_wp2_with fail
    refine H.out.mono ?_
    rintro e w' ⟨rfl, rfl⟩
    go_wp2_with fail
    go_ret
    refine ⟨_, N, by rw [HL.out]; rfl, ?_, (Ext.refl _).alloc _⟩
    rw [HL.out]
    exact Lst.block (b := w.heap.size) (T := 9) (fz := (0, 0)) (by show (w.heap.push _)[w.heap.size]? = _; simp) (by simp [HL.out]) (by unfold maxLen; omega)

theorem check_any (s : ByteArray) (w : World) (hs : s.size < 4294967281) (hE : Env w) :
    Calls Tryz.prog 16 #[.string s] w fun e w' => e = .returned (.int .i64 (chk s)) ∧ Ext w w' := by
  have hmem := els_mem_size s
  have hel := fun W (hW : Env W) => elements_any s W hs hW
  have hlen := els_length s
  unfold chk
  generalize els s = l at *
  have H := Lib.hid (hel w hE)
  have HM := Lib.hid hmem
  clear hel hmem
  by_cases h1 : 200 < (s.size : Int)
  · rw [if_pos (by omega)]
    go_enter Tryz.func16, Tryz.ntmps16
    go_wp2_with fail
    refine H.out.mono ?_
    rintro e w1 ⟨A, cap, rfl, hl, hx⟩
    go_wp2_with fail
    go_ret
    exact ⟨rfl, hx⟩
  · rw [if_neg (by omega)]
    by_cases h2 : 8 < (l.length : Int)
    · rw [if_pos (by omega)]
      go_enter Tryz.func16, Tryz.ntmps16
      go_wp2_with fail
      refine H.out.mono ?_
      rintro e w1 ⟨A, cap, rfl, hl, hx⟩
      go_wp2_with fail
      go_ret
      exact ⟨rfl, hx⟩
    · rw [if_neg (by omega)]
      have hb := fun A cap w1 (hl : Lst w1 A l.length cap (l.map .string)) => hasBadComp_any A l.length cap l w1 hl (fun x hx => by have := HM.out x hx; unfold maxLen; omega)
      cases hall : l.all okComp
      · rw [hall] at hb
        have HB := Lib.hid hb
        clear hb hall
        rw [if_neg (by decide)]
        go_enter Tryz.func16, Tryz.ntmps16
        go_wp2_with fail
        refine H.out.mono ?_
        rintro e w1 ⟨A, cap, rfl, hl, hx⟩
        go_wp2_with fail
        refine (HB.out _ _ _ hl).mono ?_
        rintro e w2 ⟨rfl, hx2⟩
        go_wp2_with fail
        go_ret
        exact ⟨rfl, hx.trans hx2⟩
      · rw [hall] at hb
        have HB := Lib.hid hb
        clear hb hall
        rw [if_pos (by decide)]
        go_enter Tryz.func16, Tryz.ntmps16
        go_wp2_with fail
        refine H.out.mono ?_
        rintro e w1 ⟨A, cap, rfl, hl, hx⟩
        go_wp2_with fail
        refine (HB.out _ _ _ hl).mono ?_
        rintro e w2 ⟨rfl, hx2⟩
        go_wp2_with fail
        go_ret
        exact ⟨rfl, hx.trans hx2⟩

/-- the elements that Split hands back -/
def spl (s : ByteArray) : List ByteArray := if chk s = 0 then els s else []

theorem psplit_any (s : ByteArray) (w : World) (hs : s.size < 4294967281) (hE : Env w) :
    Calls Tryz.prog 42 #[.string s] w fun e w' => ∃ A cap, e = .returned (.tuple #[.slice A (spl s).length cap, .int .i64 (chk s)]) ∧ Lst w' A (spl s).length cap ((spl s).map .string) ∧ Ext w w' := by
  have hc := check_any s w hs hE
  have hel := fun W (hW : Env W) => elements_any s W hs hW
  unfold spl
  by_cases h0 : chk s = 0
  · rw [if_pos h0]
    rw [h0] at hc ⊢
    generalize els s = l at *
    have HC := Lib.hid hc
    have HE := Lib.hid hel
    clear hc hel h0
    go_enter Tryz.func42, Tryz.ntmps42
    go_wp2_with fail
    refine HC.out.mono ?_
    rintro e w1 ⟨rfl, hx1⟩
    go_wp2_with fail
    refine (HE.out _ (hE.ext hx1)).mono ?_
    rintro e w2 ⟨A, cap, rfl, hl, hx2⟩
    go_wp2_with fail
    go_ret2
    exact ⟨A, cap, rfl, hl, hx1.trans hx2⟩
  · rw [if_neg h0]
    have h0' : (chk s != 0) = true := by simpa using h0
    generalize chk s = z at *
    have HC := Lib.hid hc
    clear hc hel h0
    go_enter Tryz.func42, Tryz.ntmps42
    go_wp2_with fail
    refine HC.out.mono ?_
    rintro e w1 ⟨rfl, hx1⟩
    go_wp2_with fail
    go_ret2
    exact ⟨none, 0, rfl, Lst.nil _, hx1⟩

/-- slices.Equal of the head of a list of strings and another one -/
theorem equal_any (A B : Option Addr) (n m c d : Nat) (xs ys : List ByteArray) (w : World) (hx : Lst w A n c (xs.map .string)) (hy : Lst w B m d (ys.map .string)) (hmn : m ≤ n) :
    Calls Tryz.prog 43 #[.slice A m c, .slice B m d] w fun e w' => e = .returned (.bool (decide (xs.take m = ys))) ∧ Ext w w' := by
  have hxl : n = xs.length := by simpa using hx.len
  have hyl : m = ys.length := by simpa using hy.len
  have h1 := hx.room
  have h2 := hx.max
  have h3 := hy.room
  have h4 := hy.max
  unfold maxLen at h2 h4
  by_cases h0 : m = 0
  · subst h0
    have : ys = [] := List.eq_nil_of_length_eq_zero hyl.symm
    subst this
    exact (Tryz.slices_Equal_string_empty A B c 0 d w (by omega)).mono fun e w' ⟨he, hw⟩ => ⟨by rw [he]; simp, by rw [hw]; exact Ext.refl _⟩
  · obtain ⟨b1, o1, rfl, hc1⟩ := hx.at_ (by omega)
    obtain ⟨b2, o2, rfl, hc2⟩ := hy.at_ (by omega)
    refine (Tryz.slices_Equal_string b1 o1 m c b2 o2 m d xs ys w (by omega) (by omega) (by omega) (by omega) (fun j hj => ?_) (fun j hj => ?_)).mono fun e w' ⟨he, q, hw⟩ => ⟨?_, ?_⟩
    · have := hc1 j (by simpa using hj)
      simpa [List.getD_eq_getElem?_getD, List.getElem?_eq_getElem hj] using this
    · have := hc2 j (by simpa using hj)
      simpa [List.getD_eq_getElem?_getD, List.getElem?_eq_getElem hj] using this
    · rw [he]
      have : ys.take m = ys := List.take_of_length_le (by omega)
      rw [this]
    · rw [hw]; exact (Ext.refl w).drewN q

theorem Lst.head {w : World} {A : Option Addr} {n c k : Nat} {xs : List Value} (h : Lst w A n c xs) (hk : k ≤ n) : k ≤ c := Nat.le_trans hk h.room

theorem under_any (p d : ByteArray) (w : World) (hp : p.size < 4294967281) (hd : d.size < 4294967281) (hE : Env w) :
    Calls Tryz.prog 27 #[.string p, .string d] w fun e w' => e = .returned (.bool (under p d)) ∧ Ext w w' := by
  have hsp := psplit_any p w hp hE
  have hsd := fun W (hW : Env W) => psplit_any d W hd hW
  unfold under
  by_cases h1 : chk p = 0
  · have e1 : spl p = els p := by unfold spl; rw [if_pos h1]
    rw [e1] at hsp
    rw [h1] at hsp ⊢
    by_cases h2 : chk d = 0
    · have e2 : spl d = els d := by unfold spl; rw [if_pos h2]
      rw [e2] at hsd
      rw [h2] at hsd ⊢
      have hlp := els_length p
      have hld := els_length d
      generalize els p = xs at *
      generalize els d = ys at *
      have HP := Lib.hid hsp
      have HD := Lib.hid hsd
      clear hsp hsd e1 e2 h1 h2
      by_cases h3 : (ys.length : Int) ≤ xs.length
      · go_enter Tryz.func27, Tryz.ntmps27
        go_wp2_with fail
        refine HP.out.mono ?_
        rintro e w1 ⟨A, c1, rfl, hl1, hx1⟩
        go_wp2_with fail
        refine (HD.out _ (hE.ext hx1)).mono ?_
        rintro e w2 ⟨B, c2, rfl, hl2, hx2⟩
        have hr1 := hl1.room
        have hm1 := hl1.max
        unfold maxLen at hm1
        go_wp2_with fail
        refine (equal_any A B xs.length ys.length c1 c2 xs ys w2 (hl1.ext hx2) hl2 (by omega)).mono ?_
        rintro e w3 ⟨rfl, hx3⟩
        go_wp2_with fail
        go_ret
        exact ⟨ret_bool (by simp), (hx1.trans hx2).trans hx3⟩
      · have h4 : decide (xs.take ys.length = ys) = false := by
          rw [decide_eq_false_iff_not]
          intro h
          have := congrArg List.length h
          rw [List.length_take] at this
          omega
        rw [h4]
        clear h4
        go_enter Tryz.func27, Tryz.ntmps27
        go_wp2_with fail
        refine HP.out.mono ?_
        rintro e w1 ⟨A, c1, rfl, hl1, hx1⟩
        go_wp2_with fail
        refine (HD.out _ (hE.ext hx1)).mono ?_
        rintro e w2 ⟨B, c2, rfl, hl2, hx2⟩
        go_wp2_with fail
        go_ret
        exact ⟨ret_bool (by simp), hx1.trans hx2⟩
    · have h2' : (chk d == 0) = false := by simpa using h2
      rw [h2']
      generalize chk d = z at *
      generalize spl d = ys at *
      generalize els p = xs at *
      have HP := Lib.hid hsp
      have HD := Lib.hid hsd
      clear hsp hsd e1 h1 h2
      go_enter Tryz.func27, Tryz.ntmps27
      go_wp2_with fail
      refine HP.out.mono ?_
      rintro e w1 ⟨A, c1, rfl, hl1, hx1⟩
      go_wp2_with fail
      refine (HD.out _ (hE.ext hx1)).mono ?_
      rintro e w2 ⟨B, c2, rfl, hl2, hx2⟩
      go_wp2_with fail
      go_ret
      exact ⟨ret_bool (by simp), hx1.trans hx2⟩
  · have h1' : (chk p == 0) = false := by simpa using h1
    rw [h1']
    generalize chk p = y at *
    generalize spl p = xs at *
    generalize chk d = z at *
    generalize spl d = ys at *
    have HP := Lib.hid hsp
    have HD := Lib.hid hsd
    clear hsp hsd h1
    go_enter Tryz.func27, Tryz.ntmps27
    go_wp2_with fail
    refine HP.out.mono ?_
    rintro e w1 ⟨A, c1, rfl, hl1, hx1⟩
    go_wp2_with fail
    refine (HD.out _ (hE.ext hx1)).mono ?_
    rintro e w2 ⟨B, c2, rfl, hl2, hx2⟩
    go_wp2_with fail
    go_ret
    exact ⟨ret_bool (by simp), hx1.trans hx2⟩
end Go.Proofs.YtkbaappeakgnoaaGreatDoor
