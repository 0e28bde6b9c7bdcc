/- The reference of Start and Boot; the laws BootstrapStart, BootstrapBoot. (Layer 28) -/
import Derived.Test.YtjmglbppmolipaaGreatDoorMachT
import Derived.Test.YtjmglbppmolipaaGreatDoorBootQ
import Derived.Test.YtjmglbppmolipaaGreatDoorLdRL
namespace Go.Proofs.YtjmglbppmolipaaGreatDoor
open Go.RowKit
open Go.Lib hiding intOf
set_option linter.unusedVariables false

def idxA (n order i : Nat) : Nat := if order % 2 = 1 then n - 1 - (i + order) % n else (i + order) % n
def outA (rows : List ByteArray) (order i : Nat) : List ByteArray := (List.range i).map fun j => rows.getD (idxA rows.length order j) ByteArray.empty
def allA (rows l : List ByteArray) (order : Nat) : List ByteArray := if order % 3 = 0 then l ++ outA rows order rows.length else outA rows order rows.length ++ l
theorem outA_succ (rows : List ByteArray) (order i : Nat) : outA rows order (i + 1) = outA rows order i ++ [rows.getD (idxA rows.length order i) ByteArray.empty] := by
  unfold outA
  rw [List.range_succ, List.map_append]; rfl
theorem outA_len (rows : List ByteArray) (order i : Nat) : (outA rows order i).length = i := by simp [outA]
theorem idxA_lt {n : Nat} (order i : Nat) (h : 0 < n) : idxA n order i < n := by
  have := Nat.mod_lt (i + order) h
  unfold idxA
  split <;> omega
theorem allA_len (rows l : List ByteArray) (order : Nat) : (allA rows l order).length = rows.length + l.length := by
  unfold allA
  split <;> rw [List.length_append, outA_len] <;> omega
theorem own_weak {w : World} {base base' : Nat} {e : TypeId} {size : Nat} {v : Value} {n : Nat} {xs : List Value} (h : w.ownsRow base e size v n xs) (hb : base' ≤ base) : w.ownsRow base' e size v n xs := by
  refine ⟨h.1, ?_⟩
  rcases h.2 with hn | ⟨g, cap, cur, hv, hb2, hg, rest⟩
  · exact .inl hn
  · exact .inr ⟨g, cap, cur, hv, Nat.le_trans hb hb2, hg, rest⟩
set_option maxRecDepth 100000 in
set_option maxHeartbeats 3200000 in
theorem all_any (A A0 : Option Addr) (n c n0 c0 order : Nat) (rows l : List ByteArray) (w : World) (hn : rows.length = n) (hl0n : l.length = n0) (hl : Lst w A n c (rows.map Value.string)) (hl0 : Lst w A0 n0 c0 (l.map Value.string)) (hA0 : A0 = none → n0 = 0 ∧ c0 = 0) (h100 : n ≤ 100) (h0100 : n0 ≤ 100) (ho : order ≤ 255) :
    Calls Tryz.prog 18 #[.slice A n c, .slice A0 n0 c0, .int .u8 order] w fun e w' => ∃ v, e = .returned v ∧ w'.ownsRow w.heap.size 9 1 v (n + n0) ((allA rows l order).map Value.string) ∧ Ext w w' := by
  obtain ⟨i0, hi, hz0, hz1, hz2⟩ := info_parts strInfoB
  have HL := Lib.hid hl
  have HL0 := Lib.hid hl0
  have HA0 := Lib.hid hA0
  have HN := Lib.hid hn
  have hr := hl.room
  have hm := hl.max
  have hr0 := hl0.room
  have hm0 := hl0.max
  unfold maxLen at hm hm0
  have hall : Hid (allA rows l order = if order % 3 = 0 then l ++ outA rows order n else outA rows order n ++ l) := by
    show _ = _
    unfold allA
    rw [hn]
  clear hl hl0 hA0 hn
  go_enter Tryz.func18, Tryz.ntmps18
  go_wp2_with fail
  go_loopw [7, 8] (fun ov iv wr => ∃ i : Nat, iv = .int .i64 i ∧ i ≤ n ∧ wr.ownsRow w.heap.size 9 1 ov i ((outA rows order i).map Value.string) ∧ Ext w wr) (fun _ iv _ => n - (intOf iv).toNat)
  case atStart => exact ⟨0, rfl, Nat.zero_le _, ⟨rfl, .inl ⟨rfl, rfl⟩⟩, Ext.refl _⟩
  case round =>
    obtain ⟨i, rfl, hin, hown, hx⟩ := hrel
    have HO := Lib.hid hown
    clear hown
    by_cases hlt : i < n
    · obtain ⟨k, hk⟩ : ∃ k, k = (i + order) % n := ⟨_, rfl⟩
      have hkn : k < n := by rw [hk]; exact Nat.mod_lt _ (by omega)
      have hrem : ((i : Int) + (order : Int)).tmod (n : Int) = (k : Int) := by rw [hk]; rfl
      have hn0 : ((n : Int) == 0) = false := by simp; omega
      have hrem' : ((i : Int) + (order : Int)) % (n : Int) = (k : Int) := by rw [hk]; rfl
      obtain ⟨q, off, rfl, hq⟩ := HL.out.at_ (by omega)
      obtain ⟨j, hj⟩ : ∃ j, j = idxA n order i := ⟨_, rfl⟩
      have hjn : j < n := by rw [hj]; exact idxA_lt _ _ (by omega)
      obtain ⟨x, hxx⟩ : ∃ x, x = rows.getD j ByteArray.empty := ⟨_, rfl⟩
      have hcell : wr.cell? ⟨q, off + j, none⟩ = some (.string x) := by
        have h := hx.cell (hq j (by rw [List.length_map, HN.out]; exact hjn))
        rw [List.getElem_map] at h
        rw [hxx, List.getD_eq_getElem?_getD, List.getElem?_eq_getElem (by rw [HN.out]; exact hjn)]
        exact h
      have HSn : Hid (outA rows order (i + 1) = outA rows order i ++ [x]) := by
        show _ = _
        rw [outA_succ, hxx, hj, HN.out]
      have hi100 : i ≤ 100 := by omega
      have h2o : order % 2 = 1 ∨ order % 2 = 0 := by omega
      rcases h2o with h2 | h2
      · have hb2 : ((order : Int).tmod 2 == 1) = true := by
          have : (order : Int).tmod 2 = ((order % 2 : Nat) : Int) := rfl
          rw [this, h2]; rfl
        have hb3 : ((order : Int) % 2 == 1) = true := by
          have : (order : Int) % 2 = ((order % 2 : Nat) : Int) := rfl
          rw [this, h2]; rfl
        have hje : (n : Int) - 1 - (k : Int) = (j : Int) := by
          rw [hj]; unfold idxA; rw [if_pos h2, ← hk]; omega
        have HQ := Lib.hid hq
        clear hk hxx hj h2 hq
        go_wp2_with (at_builtin; refine wpList_append_own _ rfl (.tmp 31) (.tmp 36) _ rfl w.heap.size 9 i0 _ 1 16 Tryz.underlying22 hi hz0 hz1 hz2 rfl (by omega) _ _ _ rfl (HO.out.alloc _) ⟨wr.heap.size, 0, none⟩ 1 1 [.string x] rfl rfl ?d1 ?d2 ?d3 ?d4 ?d5 ?_)
        case d1 =>
          intro j u hu
          match j, hu with
          | 0, hu => simp at hu; subst hu; go_cell
        case d2 =>
          intro u hu
          simp at hu
          subst hu; rfl
        case d3 => unfold maxLen; omega
        case d4 => omega
        case d5 => (have hc5 := hx.size; try simp at hc5); simp; omega
        intro v' w2 hown2 hgr _
        have hx3 := (hx.alloc (.cells #[.string x] 9)).grown hgr (fun k hk => (HO.out.lt k hk).1)
        have HO2 := Lib.hid hown2
        have HG := Lib.hid hgr
        clear hown2 hgr
        go_wp2_with fail
        go_roundw
        case rel => exact ⟨i + 1, by simp, by omega, by rw [HSn.out, strsV_snoc]; exact HO2.out, hx3⟩
        case measure => (show n - ((i : Int) + 1).toNat < n - (i : Int).toNat); omega
      · have hb2 : ((order : Int).tmod 2 == 1) = false := by
          have : (order : Int).tmod 2 = ((order % 2 : Nat) : Int) := rfl
          rw [this, h2]; rfl
        have hb3 : ((order : Int) % 2 == 1) = false := by
          have : (order : Int) % 2 = ((order % 2 : Nat) : Int) := rfl
          rw [this, h2]; rfl
        obtain rfl : k = j := by
          rw [hj]; unfold idxA; rw [if_neg (by omega), ← hk]
        have HQ := Lib.hid hq
        clear hk hxx hj h2 hq
        go_wp2_with (at_builtin; refine wpList_append_own _ rfl (.tmp 31) (.tmp 36) _ rfl w.heap.size 9 i0 _ 1 16 Tryz.underlying22 hi hz0 hz1 hz2 rfl (by omega) _ _ _ rfl (HO.out.alloc _) ⟨wr.heap.size, 0, none⟩ 1 1 [.string x] rfl rfl ?e1 ?e2 ?e3 ?e4 ?e5 ?_)
        case e1 =>
          intro j u hu
          match j, hu with
          | 0, hu => simp at hu; subst hu; go_cell
        case e2 =>
          intro u hu
          simp at hu
          subst hu; rfl
        case e3 => unfold maxLen; omega
        case e4 => omega
        case e5 => (have hc5 := hx.size; try simp at hc5); simp; omega
        intro v' w2 hown2 hgr _
        have hx3 := (hx.alloc (.cells #[.string x] 9)).grown hgr (fun k hk => (HO.out.lt k hk).1)
        have HO2 := Lib.hid hown2
        have HG := Lib.hid hgr
        clear hown2 hgr
        go_wp2_with fail
        go_roundw
        case rel => exact ⟨i + 1, by simp, by omega, by rw [HSn.out, strsV_snoc]; exact HO2.out, hx3⟩
        case measure => (show n - ((i : Int) + 1).toNat < n - (i : Int).toNat); omega
    · obtain rfl : i = n := by omega
      obtain ⟨B, cB, rfl, hlB⟩ := Lst.of_own HO.out
      have hrB := hlB.room
      have hmB := hlB.max
      unfold maxLen at hmB
      have h2o : order % 3 = 0 ∨ order % 3 ≠ 0 := by omega
      rcases h2o with h2 | h2
      · have hb2 : ((order : Int).tmod 3 == 0) = true := by
          have : (order : Int).tmod 3 = ((order % 3 : Nat) : Int) := rfl
          rw [this, h2]; rfl
        have hb3 : ((order : Int) % 3 == 0) = true := by
          have : (order : Int) % 3 = ((order % 3 : Nat) : Int) := rfl
          rw [this, h2]; rfl
        have hAn : (B : Option Addr) = none → i = 0 ∧ cB = 0 := by
          rcases HO.out.2 with ⟨h, h2⟩ | ⟨g, cap, cur, h, _⟩
          · cases h
            exact fun _ => ⟨h2, rfl⟩
          · cases h
            exact fun h => by cases h
        have HAn := Lib.hid hAn
        have HLB := Lib.hid hlB
        clear hAn hlB
        go_wp2_with (at_builtin; refine wpList_append_lst (by rfl) (.tmp 41) (.tmp 42) rfl wr.heap.size _ 0 [] rfl (own_empty wr wr.heap.size _ 1 (Nat.le_refl _)) A0 n0 c0 l rfl HA0.out ?k2 ?k3 ?k4 ?_)
        case k2 => exact HL0.out.ext (hx.alloc _)
        case k3 => omega
        case k4 => simp
        intro va wa howa hgra
        have hxa : Ext wr wa := Ext.grown ((Ext.refl wr).alloc (.cells #[] 9)) hgra (fun k e => by cases e; exact Nat.le_refl _)
        have HOa : Hid (wa.ownsRow wr.heap.size 9 1 va n0 (l.map Value.string)) := by
          exact howa
        clear howa hgra
        go_wp2_with (at_builtin; refine wpList_append_lst (by rfl) (.tmp 43) (.tmp 44) rfl wr.heap.size va n0 _ rfl HOa.out B i cB (outA rows order i) rfl HAn.out ?m2 ?m3 ?m4 ?_)
        case m2 => exact HLB.out.ext hxa
        case m3 => omega
        case m4 => exact hxa.size
        intro vb wb howb hgrb
        have hxb : Ext wr wb := hxa.grown hgrb (fun k e => (HOa.out.lt k e).1)
        have HOb : Hid (wb.ownsRow w.heap.size 9 1 vb (i + n0) ((allA rows l order).map Value.string)) := by
          have h := howb
          rw [← List.map_append, Nat.add_comm n0 i] at h
          rw [hall.out, if_pos h2]
          exact own_weak h hx.size
        have hxw := hx.trans hxb
        clear howb hgrb
        go_wp2_with fail
        go_ret
        exact ⟨vb, rfl, HOb.out, hxw⟩
      · have hb2 : ((order : Int).tmod 3 == 0) = false := by
          have : (order : Int).tmod 3 = ((order % 3 : Nat) : Int) := rfl
          rw [this]; simp; omega
        have hb3 : ((order : Int) % 3 == 0) = false := by
          have : (order : Int) % 3 = ((order % 3 : Nat) : Int) := rfl
          rw [this]; simp; omega
        go_wp2_with (at_builtin; refine wpList_append_lst (by rfl) (.tmp 46) (.tmp 47) rfl w.heap.size _ i _ rfl HO.out A0 n0 c0 l rfl HA0.out ?k2 ?k3 ?k4 ?_)
        case k2 => exact HL0.out.ext hx
        case k3 => omega
        case k4 => exact hx.size
        intro va wa howa hgra
        have hxa : Ext w wa := hx.grown hgra (fun k e => (HO.out.lt k e).1)
        have HOa : Hid (wa.ownsRow w.heap.size 9 1 va (i + n0) ((allA rows l order).map Value.string)) := by
          have h := howa
          rw [← List.map_append] at h
          rw [hall.out, if_neg h2]
          exact h
        clear howa hgra
        go_wp2_with fail
        go_ret
        exact ⟨va, rfl, HOa.out, hxa⟩
theorem frames_tiny (s : ByteArray) (arch : Nat) (h : s.size ≤ 767) : framesP arch s = [] := by
  unfold framesP
  rw [show s.size - 767 = 0 by omega]
  rfl
theorem framesL_tiny (rows : List ByteArray) (arch : Nat) (h : ∀ s ∈ rows, s.size ≤ 300) : framesL rows arch = [] := by
  unfold framesL
  rw [List.flatMap_eq_nil_iff]
  exact fun s hs => frames_tiny s arch (by have := h s hs; omega)
theorem outA_mem {rows : List ByteArray} {order i : Nat} {x : ByteArray} (h : x ∈ outA rows order i) (hn : 0 < rows.length) : x ∈ rows := by
  unfold outA at h
  obtain ⟨j, -, rfl⟩ := List.mem_map.1 h
  have := idxA_lt order j hn
  rw [List.getD_eq_getElem?_getD, List.getElem?_eq_getElem this]
  exact List.getElem_mem _
theorem idxA_onto (n order j : Nat) (hj : j < n) : ∃ i, i < n ∧ idxA n order i = j := by
  have key : ∀ t, t < n → ∃ i, i < n ∧ (i + order) % n = t := by
    intro t ht
    refine ⟨(t + n * order - order) % n, Nat.mod_lt _ (by omega), ?_⟩
    have h1 : order ≤ n * order := Nat.le_mul_of_pos_left _ (by omega)
    rw [Nat.mod_add_mod, show t + n * order - order + order = t + n * order by omega, Nat.add_mul_mod_self_left, Nat.mod_eq_of_lt ht]
  unfold idxA
  by_cases h : order % 2 = 1
  · obtain ⟨i, h1, h2⟩ := key (n - 1 - j) (by omega)
    refine ⟨i, h1, ?_⟩
    rw [if_pos h, h2]; omega
  · obtain ⟨i, h1, h2⟩ := key j hj
    refine ⟨i, h1, ?_⟩
    rw [if_neg h, h2]
theorem outA_all {rows : List ByteArray} {order : Nat} {x : ByteArray} (h : x ∈ rows) : x ∈ outA rows order rows.length := by
  obtain ⟨j, hj, rfl⟩ := List.getElem_of_mem h
  obtain ⟨i, h1, h2⟩ := idxA_onto rows.length order j hj
  unfold outA
  refine List.mem_map.2 ⟨i, List.mem_range.2 h1, ?_⟩
  rw [h2, List.getD_eq_getElem?_getD, List.getElem?_eq_getElem hj]
  rfl
theorem allA_mem {rows l : List ByteArray} {order : Nat} (x : ByteArray) : x ∈ allA rows l order ↔ x ∈ rows ∨ x ∈ l := by
  have hout : x ∈ outA rows order rows.length ↔ x ∈ rows := by
    constructor
    · intro h
      by_cases hn : 0 < rows.length
      · exact outA_mem h hn
      · have : rows.length = 0 := by omega
        rw [this] at h
        unfold outA at h
        simp at h
    · exact outA_all
  unfold allA
  split
  · rw [List.mem_append, hout]; exact or_comm
  · rw [List.mem_append, hout]

set_option maxRecDepth 100000 in
set_option maxHeartbeats 1600000 in
theorem rstart_any (text : ByteArray) (A : Option Addr) (n cap arch : Nat) (rows : List ByteArray) (steps : Int) (w : World) (ht : text.size ≤ 252144) (ha : arch < 4294967296) (hl : Lst w A n cap (rows.map Value.string)) (hz : ∀ s ∈ rows, s.size ≤ 1000000000) (hN : (inputL rows arch).length ≤ 1000000) :
    Calls Tryz.prog 13 #[.string text, .slice A n cap, .int .u32 arch, .int .i64 steps] w fun e w' => e = .returned (outV (startO text.data.toList rows arch steps)) ∧ Ext w w' := by
  have HI := Lib.hid (fun W (h : Ext w W) => rinput_any A n cap arch rows W (hl.ext h) hz hN)
  have HR := Lib.hid (fun W bt A2 n2 c2 (h0 : W.cell? ⟨bt, 0, none⟩ = some (.int .i64 10000)) (h1 : W.cell? ⟨bt, 1, none⟩ = some (.string text)) (hl2 : Lst W A2 n2 c2 (u32V (inputL rows arch))) (hA : ∀ p, A2 = some p → p.block < W.heap.size) => RRun_any 10000 10000 text (inputL rows arch) steps bt 1 A2 n2 c2 W h0 h1 (Nat.le_refl _) (by decide) hl2 hA (inputL_lt rows arch ha) hN (by omega) (by decide))
  obtain ⟨R, hR⟩ : ∃ R, R = startO text.data.toList rows arch steps := ⟨_, rfl⟩
  rw [← hR]
  have HRR := Lib.hid hR
  clear hl hz hN hR
  go_enter Tryz.func13, Tryz.ntmps13
  go_wp2_with fail
  have hx0 : Ext w ((w.alloc (.cells #[.string ⟨#[]⟩, .int .i64 0, .int .i64 0] 28)).alloc (.cells #[.int .i64 10000, .string text] 50)) := ((Ext.refl w).alloc _).alloc _
  refine (HI.out _ hx0).mono ?_
  rintro e w1 ⟨v, rfl, hown, hx1⟩
  have hx01 := hx0.trans hx1
  have b0 : Blk w1 w.heap.size 28 [.string ⟨#[]⟩, .int .i64 0, .int .i64 0] := (show Blk ((w.alloc (.cells #[.string ⟨#[]⟩, .int .i64 0, .int .i64 0] 28)).alloc (.cells #[.int .i64 10000, .string text] 50)) w.heap.size 28 [.string ⟨#[]⟩, .int .i64 0, .int .i64 0] from (show Blk (w.alloc _) w.heap.size _ _ from heap_alloc_new w _).alloc _).ext hx1
  have t0 : w1.cell? ⟨w.heap.size + 1, 0, none⟩ = some (.int .i64 10000) := hx1.cell (by simp)
  have t1 : w1.cell? ⟨w.heap.size + 1, 1, none⟩ = some (.string text) := hx1.cell (by simp)
  obtain ⟨A2, c2, rfl, hl2⟩ := Lst.of_own hown
  have hA2 : ∀ p, A2 = some p → p.block < w1.heap.size := by
    intro p hp
    subst hp
    exact (own_lt hown rfl).2
  have HRN := Lib.hid (HR.out w1 _ A2 _ c2 t0 t1 hl2 hA2)
  have HB0 := Lib.hid b0
  have hr2 := hl2.room
  have hm2 := hl2.max
  unfold maxLen at hm2
  clear hown hl2 hA2 t0 t1 b0 hx1 hx0
  generalize (inputL rows arch).length = N at *
  go_wp2_with fail
  refine HRN.out.mono ?_
  rintro e w2 ⟨rfl, hx2⟩
  have b2 := HB0.out.ext hx2
  have p0 := b2.cell (i := 0) rfl
  have p1 := b2.cell (i := 1) rfl
  have p2 := b2.cell (i := 2) rfl
  have f0 := blk_frozen b2 0
  have f1 := blk_frozen b2 1
  have f2 := blk_frozen b2 2
  rw [show runO 10000 text.data.toList 10000 (inputL rows arch) steps = R from HRR.out.symm]
  have hxx := hx01.trans hx2
  unfold outV
  clear b2
  go_wp2_with fail
  exact bodyPost_ret (v := .agg #[.string (BA R.1), .int .i64 R.2.1, .int .i64 R.2.2]) (by simp [results, Tryz.results13, go_sem, p0, p1, p2]) rfl ⟨rfl, ((hxx.set (Nat.le_refl _) _).set (Nat.le_refl _) _).set (Nat.le_refl _) _⟩

set_option maxRecDepth 100000 in
set_option maxHeartbeats 1600000 in
theorem rboot_any (A : Option Addr) (n cap arch : Nat) (rows : List ByteArray) (steps : Int) (w : World) (hE : Env w) (ha : arch < 4294967296) (hl : Lst w A n cap (rows.map Value.string)) (hz : ∀ s ∈ rows, s.size ≤ 1000000000) (hN : (inputL rows arch).length ≤ 1000000) (hF : (framesL rows arch).length ≤ 1000000) (hT : (loadA (framesL rows arch)).1.length ≤ 252144) :
    Calls Tryz.prog 20 #[.slice A n cap, .int .u32 arch, .int .i64 steps] w fun e w' => e = .returned (outV (bootO rows arch steps)) ∧ Ext w w' := by
  have HL := Lib.hid (fun W (h : Ext w W) => rload_any A n cap arch rows W ha (hl.ext h) hz hF (framesL_sizes rows arch))
  have hS := fun W (h : Ext w W) => rstart_any (BA (loadA (framesL rows arch)).1) A n cap arch rows steps W (by rw [BA_size]; exact hT) ha (hl.ext h) hz hN
  obtain ⟨R, hR⟩ : ∃ R, R = bootO rows arch steps := ⟨_, rfl⟩
  rw [← hR]
  unfold bootO at hR
  generalize loadA (framesL rows arch) = Q at *
  obtain ⟨q1, q2, q3⟩ := Q
  simp only [BA_data] at hS
  by_cases h0 : q3 = 0
  · rw [if_neg (by simpa using h0)] at hR
    simp only at hR
    rw [← hR] at hS
    subst h0
    have HS := Lib.hid hS
    clear hS hR hl hz hN hF hT
    go_enter Tryz.func20, Tryz.ntmps20
    go_wp2_with fail
    have hx0 : Ext w (w.alloc (.cells #[.string ⟨#[]⟩, .int .i64 0, .int .i64 0] 28)) := (Ext.refl w).alloc _
    refine (HL.out _ hx0).mono ?_
    rintro e w1 ⟨v, rfl, hown, hx1⟩
    have hx01 := hx0.trans hx1
    have HB0 := Lib.hid ((outcome_new w).ext hx1)
    clear hown hx1 hx0
    go_wp2_with fail
    refine (HS.out _ hx01).mono ?_
    rintro e w2 ⟨rfl, hx2⟩
    have b2 := HB0.out.ext hx2
    have p0 := b2.cell (i := 0) rfl
    have p1 := b2.cell (i := 1) rfl
    have p2 := b2.cell (i := 2) rfl
    have f0 := blk_frozen b2 0
    have f1 := blk_frozen b2 1
    have f2 := blk_frozen b2 2
    have hxx := hx01.trans hx2
    unfold outV
    clear b2
    go_wp2_with fail
    exact bodyPost_ret (v := .agg #[.string (BA R.1), .int .i64 R.2.1, .int .i64 R.2.2]) (by simp [results, Tryz.results20, go_sem, p0, p1, p2]) rfl ⟨rfl, ((hxx.set (Nat.le_refl _) _).set (Nat.le_refl _) _).set (Nat.le_refl _) _⟩
  · rw [if_pos (by simpa using h0)] at hR
    simp only at hR
    subst hR
    have hq : (q3 != 0) = true := by simpa using h0
    clear hS hl hz hN hF hT h0
    go_enter Tryz.func20, Tryz.ntmps20
    go_wp2_with fail
    have hx0 : Ext w (w.alloc (.cells #[.string ⟨#[]⟩, .int .i64 0, .int .i64 0] 28)) := (Ext.refl w).alloc _
    refine (HL.out _ hx0).mono ?_
    rintro e w1 ⟨v, rfl, hown, hx1⟩
    have hxx := hx0.trans hx1
    have b2 := (outcome_new w).ext hx1
    have p0 := b2.cell (i := 0) rfl
    have p1 := b2.cell (i := 1) rfl
    have p2 := b2.cell (i := 2) rfl
    have f0 := blk_frozen b2 0
    have f1 := blk_frozen b2 1
    have f2 := blk_frozen b2 2
    clear b2 hown hx1 hx0
    go_wp2_with fail
    exact bodyPost_ret (v := .agg #[.string (BA []), .int .i64 q3, .int .i64 0]) (by simp [results, Tryz.results20, go_sem, p0, p1, p2, BA]) rfl ⟨rfl, ((hxx.set (Nat.le_refl _) _).set (Nat.le_refl _) _).set (Nat.le_refl _) _⟩

set_option maxRecDepth 100000 in
set_option maxHeartbeats 3200000 in
theorem lawStart_any (s : ByteArray) (A0 : Option Addr) (n0 c0 : Nat) (rows0 : List ByteArray) (arch : Nat) (steps : Int) (w : World) (hs : s.size ≤ maxLen) (hl0 : Lst w A0 n0 c0 (rows0.map Value.string)) (hz0 : ∀ x ∈ rows0, x.size ≤ maxLen) (ha : arch < 4294967296) (hE : Env w) :
    Calls Tryz.prog 3 #[.string s, .slice A0 n0 c0, .int .u32 arch, .int .i64 steps] w fun e w' => e = .returned (.bool true) ∧ Ext w w' := by
  have HA := Lib.hid (fun W (h : Env W) => alive_any W h)
  have HE := Lib.hid hE
  have hsm := fun W (h : Ext w W) => small_any s A0 n0 c0 rows0 steps W (hl0.ext h) hz0 hs
  cases hb : smallB s.size rows0 steps with
  | false =>
    rw [hb] at hsm
    have HSM := Lib.hid hsm
    clear hsm hb hE
    go_enter Tryz.func3, Tryz.ntmps3
    go_wp2_with fail
    refine (HA.out _ HE.out).mono ?_
    rintro e w1 ⟨rfl, hx1⟩
    go_wp2_with fail
    refine (HSM.out _ hx1).mono ?_
    rintro e w2 ⟨rfl, rfl⟩
    go_wp2_with fail
    go_ret
    exact ⟨rfl, hx1⟩
  | true =>
    rw [hb] at hsm
    obtain ⟨b1, b2, -, b4⟩ := smallB_spec hb
    have HSM := Lib.hid hsm
    have hN : (inputL rows0 arch).length ≤ 1000000 := by
      have := inputL_bound rows0 arch 300 b4
      omega
    have h1 := fun W (h : Ext w W) => start_any s A0 n0 c0 arch rows0 steps W (by omega) ha (hl0.ext h) (fun x hx => by have := b4 x hx; omega) hN
    have h2 := fun W (h : Ext w W) => rstart_any s A0 n0 c0 arch rows0 steps W (by omega) ha (hl0.ext h) (fun x hx => by have := b4 x hx; omega) hN
    obtain ⟨X, hX⟩ : ∃ X, X = startO s.data.toList rows0 arch steps := ⟨_, rfl⟩
    rw [← hX] at h1 h2
    obtain ⟨x1, x2, x3⟩ := X
    have hb11 : outV (x1, x2, x3) = .agg #[.string (BA x1), .int .i64 x2, .int .i64 x3] := rfl
    rw [hb11] at h1 h2
    have H1 := Lib.hid h1
    have H2 := Lib.hid h2
    clear h1 h2 hX hb11 hsm hb b1 b2 b4 hE hN hl0 hz0
    go_enter Tryz.func3, Tryz.ntmps3
    go_wp2_with fail
    refine (HA.out _ HE.out).mono ?_
    rintro e w1 ⟨rfl, hx1⟩
    go_wp2_with fail
    refine (HSM.out _ hx1).mono ?_
    rintro e w2 ⟨rfl, rfl⟩
    go_wp2_with fail
    refine (H1.out _ hx1).mono ?_
    rintro e w2 ⟨rfl, hx2⟩
    have hx12 := hx1.trans hx2
    go_wp2_with fail
    refine (H2.out _ hx12).mono ?_
    rintro e w3 ⟨rfl, hx3⟩
    have hx13 := hx12.trans hx3
    have hq := fun s => out_eq s
    go_wp2_with fail
    go_ret
    exact ⟨rfl, hx13⟩
/-- of pieces of one text at most that text is loaded -/
theorem load_sub_len {L : List Pc} {T : Nat} (hv : ∀ y ∈ L, 1 ≤ y.total ∧ y.total ≤ 99999 ∧ y.text.size = 64) (ht : ∀ y ∈ L, y.total = (T : Int)) : (loadA L).1.length ≤ 64 * T := by
  cases hb : (ldRun L).bad with
  | true =>
    have : loadA L = ([], [], 20) := by unfold loadA loadS; rw [hb, if_pos rfl]
    rw [this]; exact Nat.zero_le _
  | false =>
    obtain ⟨n, h1, h2, h3, h4⟩ := ld_end hv hb
    have hn : n ≤ T ∨ n = 0 := by
      cases L with
      | nil => right; have h : (0 : Int) = (n : Int) := h1; omega
      | cons y L =>
        left
        rcases ldInv (y :: L) (fun z hz => by have := (hv z hz).1; omega) with ⟨h, -⟩ | ⟨-, -, h, -, -⟩
        · rw [hb] at h; cases h
        · have e := h y List.mem_cons_self
          rw [h1, ht y List.mem_cons_self] at e
          omega
    rw [h4]
    split
    · exact Nat.zero_le _
    split
    · have := joinN_len (ldRun L).texts (fun k t e => Nat.le_of_eq (h3 k t e)) n
      show (joinN _ n).length ≤ _
      omega
    · exact Nat.zero_le _
theorem frames_mem {rows : List ByteArray} {arch : Nat} {y : Pc} (h : y ∈ framesL rows arch) : ∃ s ∈ rows, y ∈ framesL [s] arch := by
  unfold framesL at h ⊢
  obtain ⟨s, h1, h2⟩ := List.mem_flatMap.1 h
  exact ⟨s, h1, by simpa using h2⟩
theorem frames_sub {rows : List ByteArray} {arch : Nat} {s : ByteArray} {y : Pc} (hs : s ∈ rows) (h : y ∈ framesL [s] arch) : y ∈ framesL rows arch := by
  unfold framesL at h ⊢
  exact List.mem_flatMap.2 ⟨s, hs, by simpa using h⟩
theorem left_len (s : ByteArray) (arch order : Nat) (L rows0 : List ByteArray) (ha : arch < 4294967296) (hs : s.size ≤ 1000) (hp : prB s.data.toList = true) (hL : ∀ x ∈ L, x ∈ stripsL (piecesP s arch)) (h0 : ∀ x ∈ rows0, x.size ≤ 300) :
    (loadA (framesL (allA L rows0 order) arch)).1.length ≤ 2000 := by
  have h := load_sub_len (T := totalN s.size) (framesL_sizes (allA L rows0 order) arch) (fun y hy => by
    obtain ⟨x, hx, hy⟩ := frames_mem hy
    rcases allA_mem x |>.1 hx with hx | hx
    · have := frames_sub (hL x hx) hy
      rw [framesL_strips _ _ (pieces_fit s arch ha (by omega) hp)] at this
      unfold piecesP at this
      obtain ⟨i, -, rfl⟩ := List.mem_map.1 this
      rfl
    · rw [framesL_tiny [x] arch (fun z hz => by rw [List.mem_singleton.1 hz]; exact h0 x hx)] at hy
      cases hy)
  have : totalN s.size ≤ 16 := by unfold totalN; omega
  omega
theorem strips_szs (s : ByteArray) (arch : Nat) (ha : arch < 4294967296) (hs : s.size ≤ 40000) (hp : prB s.data.toList = true) : ∀ x ∈ stripsL (piecesP s arch), x.size ≤ 3072 := by
  intro x hx
  unfold stripsL stripsN at hx
  obtain ⟨k, -, rfl⟩ := List.mem_map.1 hx
  rw [strip_size _ _ (fun p hp' => enc_len (check_ok (pieces_fit s arch ha hs hp p hp').1.ok).2.2.2.2.1)]
  omega
end Go.Proofs.YtjmglbppmolipaaGreatDoor
namespace Go.Proofs.YtjmglbppmolipaaGreatDoor
open Go.RowKit
open Go.Lib hiding intOf
set_option linter.unusedVariables false

set_option maxRecDepth 100000 in
set_option maxHeartbeats 3200000 in
theorem lawBoot_any (s : ByteArray) (A0 : Option Addr) (n0 c0 : Nat) (rows0 : List ByteArray) (arch : Nat) (steps : Int) (order : Nat) (w : World) (hs : s.size ≤ maxLen) (hl0 : Lst w A0 n0 c0 (rows0.map Value.string)) (hz0 : ∀ x ∈ rows0, x.size ≤ maxLen) (hA0 : A0 = none → n0 = 0 ∧ c0 = 0) (ha : arch < 4294967296) (ho : order ≤ 255) (hE : Env w) :
    Calls Tryz.prog 5 #[.string s, .slice A0 n0 c0, .int .u32 arch, .int .i64 steps, .int .u8 order] w fun e w' => e = .returned (.bool true) ∧ Ext w w' := by
  have HA := Lib.hid (fun W (h : Env W) => alive_any W h)
  have HE := Lib.hid hE
  have hE0 := hE
  have hsm := fun W (h : Ext w W) => small_any s A0 n0 c0 rows0 steps W (hl0.ext h) hz0 hs
  cases hb : smallB s.size rows0 steps with
  | false =>
    rw [hb] at hsm
    have HSM := Lib.hid hsm
    clear hsm hb hE
    go_enter Tryz.func5, Tryz.ntmps5
    go_wp2_with fail
    refine (HA.out _ HE.out).mono ?_
    rintro e w1 ⟨rfl, hx1⟩
    go_wp2_with fail
    refine (HSM.out _ hx1).mono ?_
    rintro e w2 ⟨rfl, rfl⟩
    go_wp2_with fail
    go_ret
    exact ⟨rfl, hx1⟩
  | true =>
  rw [hb] at hsm
  obtain ⟨b1, b2, -, b4⟩ := smallB_spec hb
  have HSM := Lib.hid hsm
  have hS := fun W (h : Env W) => rstrips_any s arch W hs ha
  have hn06 : n0 ≤ 6 := by rw [hl0.len, List.length_map]; exact b2
  have hlen0 : rows0.length = n0 := by rw [hl0.len, List.length_map]
  rcases splitA_cases s arch with ⟨e1, e2⟩ | ⟨h40, hp, hsa⟩
  · rw [e1] at hS
    have hE2 : ((splitA s arch).2 != 0) = true := by simpa using e2
    have HS := Lib.hid hS
    generalize (splitA s arch).2 = E at *
    clear hS e1 e2 hE hsm hb b4
    go_enter Tryz.func5, Tryz.ntmps5
    go_wp2_with fail
    refine (HA.out _ HE.out).mono ?_
    rintro e w1 ⟨rfl, hx1⟩
    go_wp2_with fail
    refine (HSM.out _ hx1).mono ?_
    rintro e w1' ⟨rfl, rfl⟩
    go_wp2_with fail
    refine (HS.out _ (HE.out.ext hx1)).mono ?_
    rintro e w2 ⟨v, rfl, hown, hx2⟩
    have hxx := hx1.trans hx2
    clear hown hx1 hx2
    go_wp2_with fail
    go_ret
    exact ⟨rfl, hxx⟩
  · rw [hsa] at hS
    have hlen := stripsN_len (piecesP s arch) (((piecesP s arch).length + 3) / 4)
    have hlen : (stripsL (piecesP s arch)).length = ((piecesP s arch).length + 3) / 4 := hlen
    rw [pieces_len] at hlen
    have hzz : ∀ x ∈ stripsL (piecesP s arch), x.size ≤ 3072 := strips_szs s arch ha h40 hp
    have hll := fun L hL => left_len s arch order L rows0 ha b1 hp hL b4
    obtain ⟨n, hn⟩ : ∃ n, n = (totalN s.size + 3) / 4 := ⟨_, rfl⟩
    have hn5 : n ≤ 5 := by rw [hn]; unfold totalN; omega
    rw [← hn] at hlen
    simp only at hS
    generalize stripsL (piecesP s arch) = rows at *
    have hS2 : ∀ W, Env W → Calls Tryz.prog 16 #[.string s, .int .u32 arch] W fun e w' => ∃ v, e = .returned (.tuple #[v, .int .i64 0]) ∧ w'.ownsRow W.heap.size 9 1 v n (rows.map Value.string) ∧ Ext W w' := by
      intro W h
      have := hS W h
      unfold StrPost at this
      rw [hlen] at this
      exact this
    have HS := Lib.hid hS2
    have HLEN := Lib.hid hlen
    have hBoot : ∀ (L : List ByteArray), (∀ x ∈ L, x ∈ rows) → L.length ≤ n → ∀ W (h : Ext w W) (A : Option Addr) (m c : Nat), m = L.length → Lst W A m c (L.map Value.string) → Calls Tryz.prog 18 #[.slice A m c, .slice A0 n0 c0, .int .u8 order] W fun e w' => ∃ v, e = .returned v ∧ w'.ownsRow W.heap.size 9 1 v (m + n0) ((allA L rows0 order).map Value.string) ∧ Ext W w' :=
      fun L hL hLn W h A m c hm hl => all_any A A0 m c n0 c0 order L rows0 W hm.symm hlen0 hl (hl0.ext h) hA0 (by omega) (by omega) ho
    have hBB : ∀ (L : List ByteArray), (∀ x ∈ L, x ∈ rows) → L.length ≤ n → ∃ x1 x2 x3, ∀ W (h : Ext w W) (B : Option Addr) (m c : Nat), m = L.length + n0 → Lst W B m c ((allA L rows0 order).map Value.string) →
        (Calls Tryz.prog 19 #[.slice B m c, .int .u32 arch, .int .i64 steps] W fun e w' => e = .returned (.agg #[.string (BA x1), .int .i64 x2, .int .i64 x3]) ∧ Ext W w') ∧
        (Calls Tryz.prog 20 #[.slice B m c, .int .u32 arch, .int .i64 steps] W fun e w' => e = .returned (.agg #[.string (BA x1), .int .i64 x2, .int .i64 x3]) ∧ Ext W w') := by
      intro L hL hLn
      have hall : ∀ x ∈ allA L rows0 order, x.size ≤ 3072 := fun x hx => by
        rcases allA_mem x |>.1 hx with hx | hx
        · exact hzz x (hL x hx)
        · have := b4 x hx; omega
      have hl1 : (allA L rows0 order).length = L.length + n0 := by rw [allA_len, hlen0]
      have hT := hll L hL
      have hN := inputL_bound _ arch 3072 hall
      have hF := framesL_bound _ arch 3072 hall
      rw [hl1] at hN hF
      obtain ⟨x1, x2, x3⟩ : List UInt8 × Int × Int := bootO (allA L rows0 order) arch steps
      refine ⟨(bootO (allA L rows0 order) arch steps).1, (bootO (allA L rows0 order) arch steps).2.1, (bootO (allA L rows0 order) arch steps).2.2, fun W h B m c hm hl => ?_⟩
      exact ⟨boot_any B m c arch (allA L rows0 order) steps W (hE0.ext h) ha hl (fun x hx => by have := hall x hx; omega) (by omega) (by omega) (by omega),
        rboot_any B m c arch (allA L rows0 order) steps W (hE0.ext h) ha hl (fun x hx => by have := hall x hx; omega) (by omega) (by omega) (by omega)⟩
    have HBoot := Lib.hid hBoot
    have HBB := Lib.hid hBB
    clear hS hS2 hlen hE hsm hb hp hBoot hBB hzz hll hE0 hlen0 b4 hl0 hz0 hA0 hsa hn
    obtain ⟨i0, hi, hz0, hz1, hz2⟩ := info_parts strInfoB
    go_enter Tryz.func5, Tryz.ntmps5
    go_wp2_with fail
    refine (HA.out _ HE.out).mono ?_
    rintro e w1 ⟨rfl, hx1⟩
    go_wp2_with fail
    refine (HSM.out _ hx1).mono ?_
    rintro e w1' ⟨rfl, rfl⟩
    go_wp2_with fail
    refine (HS.out _ (HE.out.ext hx1)).mono ?_
    rintro e wS ⟨v, rfl, hown, hx2⟩
    obtain ⟨A, c, rfl, hl⟩ := Lst.of_own hown
    have hxx := hx1.trans hx2
    have hr := hl.room
    have hm := hl.max
    unfold maxLen at hm
    have HL := Lib.hid hl
    clear hown hl hx1 hx2
    go_wp2_with fail
    go_loopw [13, 14] (fun lv iv wr => ∃ (i : Nat) (L : List ByteArray), iv = .int .i64 (i : Int) ∧ i ≤ n ∧ (∀ x ∈ L, x ∈ rows) ∧ L.length ≤ i ∧ wr.ownsRow wS.heap.size 9 1 lv L.length (L.map Value.string) ∧ Ext wS wr) (fun _ iv _ => n - (intOf iv).toNat)
    case atStart => exact ⟨0, [], rfl, Nat.zero_le _, (fun x hx => (by cases hx)), Nat.le_refl _, ⟨rfl, .inl ⟨rfl, rfl⟩⟩, Ext.refl _⟩
    case round =>
      obtain ⟨i, L, rfl, hi2, hL, hLi, hown, hx⟩ := hrel
      by_cases hin : i < n
      · have hlr : i < rows.length := by rw [HLEN.out]; exact hin
        obtain ⟨b, off, hA, hc⟩ := HL.out.at_ (by omega)
        subst hA
        have hci := hx.cell (hc i (by rw [List.length_map]; exact hlr))
        simp only [List.getElem_map] at hci
        have hmem : rows[i] ∈ rows := List.getElem_mem hlr
        generalize rows[i] = x at *
        have hi8 : (i : Int) % 8 = ((i % 8 : Nat) : Int) := rfl
        have hi88 : i % 8 < 8 := Nat.mod_lt _ (by decide)
        generalize i % 8 = r at *
        clear hc
        cases hq : (bits BinOp.and IntKind.u8 ((order : Int) / 2 ^ r) 1 == 0) with
        | false =>
          have HO := Lib.hid hown
          have HLL := Lib.hid hL
          clear hown hL
          go_wp2_with fail
          go_roundw
          case rel => exact ⟨i + 1, L, by go_num, by omega, HLL.out, by omega, HO.out, hx⟩
          case measure => simp [intOf]; omega
        | true =>
          have HO5 := Lib.hid hown
          have HLL := Lib.hid hL
          obtain ⟨N, hN⟩ : ∃ N, N = L.length := ⟨_, rfl⟩
          have HN := Lib.hid hN
          rw [← hN] at HO5 hLi
          clear hown hL hN
          go_wp2_with (at_builtin; refine wpList_append_own _ rfl (.tmp 44) (.tmp 49) _ rfl wS.heap.size 9 i0 _ 1 16 Tryz.underlying22 hi hz0 hz1 hz2 rfl (by omega) _ _ _ rfl (HO5.out.alloc _) ⟨wr.heap.size, 0, none⟩ 1 1 [.string x] rfl rfl ?d1 ?d2 ?d3 ?d4 ?d5 ?_)
          case d1 =>
            intro j u hu
            match j, hu with
            | 0, hu => simp at hu; subst hu; go_cell
          case d2 =>
            intro u hu
            simp at hu
            subst hu; rfl
          case d3 => unfold maxLen; omega
          case d4 => omega
          case d5 => (have hc5 := hx.size; try simp at hc5); simp; omega
          intro v' w2 hown2 hgr _
          have hx3 := (hx.alloc (.cells #[.string x] 9)).grown hgr (fun k hk => (HO5.out.lt k hk).1)
          have HO2 := Lib.hid hown2
          have HG := Lib.hid hgr
          clear hown2 hgr
          go_wp2_with fail
          go_roundw
          case rel => exact ⟨i + 1, L ++ [x], by go_num, by omega, (fun y hy => by
            rcases List.mem_append.1 hy with hy | hy
            · exact HLL.out y hy
            · rw [List.mem_singleton.1 hy]; exact hmem), by rw [List.length_append, ← HN.out]; simp; omega, by
            have h := HO2.out
            rw [List.length_append, ← HN.out, List.map_append]
            exact h, hx3⟩
          case measure => simp [intOf]; omega
      · obtain rfl : i = n := by omega
        obtain ⟨A2, c2, rfl, hl2⟩ := Lst.of_own hown
        have hr2 := hl2.room
        have hm2 := hl2.max
        unfold maxLen at hm2
        have hLn := hLi
        obtain ⟨x1, x2, x3, hbb⟩ := HBB.out L hL hLi
        have hxw := hxx.trans hx
        have HAL := Lib.hid (HBoot.out L hL hLi wr hxw A2 L.length c2 rfl hl2)
        have HB2 := Lib.hid hbb
        obtain ⟨N, hN⟩ : ∃ N, N = L.length := ⟨_, rfl⟩
        rw [← hN] at hr2 HAL hLi HB2 hLn ⊢
        clear hown hl2 hbb hL HBB HBoot hxx hx hN
        go_wp2_with fail
        refine HAL.out.mono ?_
        rintro e w4 ⟨vb, rfl, hownb, hx4⟩
        obtain ⟨B, cB, rfl, hlB⟩ := Lst.of_own hownb
        have hrB := hlB.room
        have hmB := hlB.max
        unfold maxLen at hmB
        have hx04 := hxw.trans hx4
        obtain ⟨M, hM⟩ : ∃ M, M = N + n0 := ⟨_, rfl⟩
        rw [← hM] at hrB hlB ⊢
        have hM11 : M ≤ 11 := by omega
        have HB3 := Lib.hid (fun W (h : Ext w4 W) => HB2.out W (hx04.trans h) B M cB hM (hlB.ext h))
        clear hownb hlB HAL hxw hx4 hM HB2
        go_wp2_with fail
        refine (HB3.out w4 (Ext.refl _)).1.mono ?_
        rintro e w5 ⟨rfl, hx5⟩
        go_wp2_with fail
        refine (HB3.out w5 hx5).2.mono ?_
        rintro e w6 ⟨rfl, hx6⟩
        have hx06 := (hx04.trans hx5).trans hx6
        have hq := fun s => out_eq s
        go_wp2_with fail
        go_ret
        exact ⟨rfl, hx06⟩
end Go.Proofs.YtjmglbppmolipaaGreatDoor
