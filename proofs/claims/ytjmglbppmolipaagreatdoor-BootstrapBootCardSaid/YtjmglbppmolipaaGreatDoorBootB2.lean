/- Start, Boot; alive() of layer 28; the reference of Strips. (Layer 28) -/
import Derived.Test.YtjmglbppmolipaaGreatDoorMachM4
import Derived.Test.YtjmglbppmolipaaGreatDoorBootB1
import Derived.Test.YtjmglbppmolipaaGreatDoorLdLoad2
import Derived.Test.YtjmglbppmolipaaGreatDoorLdInput
import Derived.Test.YtjmglbppmolipaaGreatDoorMachM2
import Derived.Test.YtjmglbppmolipaaGreatDoorLdRef3
namespace Go.Proofs.YtjmglbppmolipaaGreatDoor
open Go.RowKit
open Go.Lib hiding intOf
set_option linter.unusedVariables false

/-- what Start answers -/
def startO (text : List UInt8) (rows : List ByteArray) (arch : Nat) (steps : Int) : List UInt8 × Int × Int := runO 10000 text 10000 (inputL rows arch) steps
/-- what Boot answers -/
def bootO (rows : List ByteArray) (arch : Nat) (steps : Int) : List UInt8 × Int × Int :=
  if (loadA (framesL rows arch)).2.2 ≠ 0 then ([], (loadA (framesL rows arch)).2.2, 0) else startO (loadA (framesL rows arch)).1 rows arch steps
theorem inputL_lt (rows : List ByteArray) (arch : Nat) (ha : arch < 4294967296) : ∀ x ∈ inputL rows arch, x < 4294967296 := by
  intro x hx
  unfold inputL at hx
  rcases List.mem_cons.1 hx with rfl | hx
  · exact ha
  · obtain ⟨s, -, hx⟩ := List.mem_flatMap.1 hx
    unfold inputP at hx
    split at hx
    · cases hx
    · rcases List.mem_append.1 hx with hx | hx
      · obtain ⟨c, -, rfl⟩ := List.mem_map.1 hx
        unfold symN
        split
        · decide
        · split <;> decide
      · rw [List.mem_singleton.1 hx]; decide
set_option maxRecDepth 100000 in
set_option maxHeartbeats 1600000 in
theorem start_any (text : ByteArray) (A : Option Addr) (n cap arch : Nat) (rows : List ByteArray) (steps : Int) (w : World) (ht : text.size ≤ 252144) (ha : arch < 4294967296) (hl : Lst w A n cap (rows.map Value.string)) (hz : ∀ s ∈ rows, s.size ≤ 1000000000) (hN : (inputL rows arch).length ≤ 1000000) :
    Calls Tryz.prog 12 #[.string text, .slice A n cap, .int .u32 arch, .int .i64 steps] w fun e w' => e = .returned (outV (startO text.data.toList rows arch steps)) ∧ Ext w w' := by
  have HI := Lib.hid (fun W (h : Ext w W) => input_any A n cap arch rows W (hl.ext h) hz hN)
  have HR := Lib.hid (fun W bt A2 n2 c2 (h0 : W.cell? ⟨bt, 0, none⟩ = some (.int .i64 10000)) (h1 : W.cell? ⟨bt, 1, none⟩ = some (.string text)) (hl2 : Lst W A2 n2 c2 (u32V (inputL rows arch))) (hA : ∀ p, A2 = some p → p.block < W.heap.size) => Run_any 10000 10000 text (inputL rows arch) steps bt 1 A2 n2 c2 W h0 h1 (Nat.le_refl _) (by decide) hl2 hA (inputL_lt rows arch ha) hN (by omega) (by decide))
  obtain ⟨R, hR⟩ : ∃ R, R = startO text.data.toList rows arch steps := ⟨_, rfl⟩
  rw [← hR]
  have HRR := Lib.hid hR
  clear hl hz hN hR
  go_enter Tryz.func12, Tryz.ntmps12
  go_wp2_with fail
  have hx0 : Ext w ((w.alloc (.cells #[.string ⟨#[]⟩, .int .i64 0, .int .i64 0] 28)).alloc (.cells #[.int .i64 10000, .string text] 50)) := ((Ext.refl w).alloc _).alloc _
  refine (HI.out _ hx0).mono ?_
  rintro e w1 ⟨v, rfl, hown, hx1⟩
  have hx01 := hx0.trans hx1
  have b0 : Blk w1 w.heap.size 28 [.string ⟨#[]⟩, .int .i64 0, .int .i64 0] := (show Blk ((w.alloc (.cells #[.string ⟨#[]⟩, .int .i64 0, .int .i64 0] 28)).alloc (.cells #[.int .i64 10000, .string text] 50)) w.heap.size 28 [.string ⟨#[]⟩, .int .i64 0, .int .i64 0] from (show Blk (w.alloc _) w.heap.size _ _ from heap_alloc_new w _).alloc _).ext hx1
  have t0 : w1.cell? ⟨w.heap.size + 1, 0, none⟩ = some (.int .i64 10000) := hx1.cell (by simp)
  have t1 : w1.cell? ⟨w.heap.size + 1, 1, none⟩ = some (.string text) := hx1.cell (by simp)
  obtain ⟨A2, c2, rfl, hl2⟩ := Lst.of_own hown
  have hA2 : ∀ p, A2 = some p → p.block < w1.heap.size := by
    intro p hp
    subst hp
    exact (own_lt hown rfl).2
  have HRN := Lib.hid (HR.out w1 _ A2 _ c2 t0 t1 hl2 hA2)
  have HB0 := Lib.hid b0
  have hr2 := hl2.room
  have hm2 := hl2.max
  unfold maxLen at hm2
  clear hown hl2 hA2 t0 t1 b0 hx1 hx0
  generalize (inputL rows arch).length = N at *
  go_wp2_with fail
  refine HRN.out.mono ?_
  rintro e w2 ⟨rfl, hx2⟩
  have b2 := HB0.out.ext hx2
  have p0 := b2.cell (i := 0) rfl
  have p1 := b2.cell (i := 1) rfl
  have p2 := b2.cell (i := 2) rfl
  have f0 := blk_frozen b2 0
  have f1 := blk_frozen b2 1
  have f2 := blk_frozen b2 2
  rw [show runO 10000 text.data.toList 10000 (inputL rows arch) steps = R from HRR.out.symm]
  have hxx := hx01.trans hx2
  unfold outV
  clear b2
  go_wp2_with fail
  exact bodyPost_ret (v := .agg #[.string (BA R.1), .int .i64 R.2.1, .int .i64 R.2.2]) (by simp [results, Tryz.results12, go_sem, p0, p1, p2]) rfl ⟨rfl, ((hxx.set (Nat.le_refl _) _).set (Nat.le_refl _) _).set (Nat.le_refl _) _⟩

theorem outcome_new (w : World) : Blk (w.alloc (.cells #[.string ⟨#[]⟩, .int .i64 0, .int .i64 0] 28)) w.heap.size 28 [.string ⟨#[]⟩, .int .i64 0, .int .i64 0] := heap_alloc_new w _
set_option maxRecDepth 100000 in
set_option maxHeartbeats 1600000 in
theorem boot_any (A : Option Addr) (n cap arch : Nat) (rows : List ByteArray) (steps : Int) (w : World) (hE : Env w) (ha : arch < 4294967296) (hl : Lst w A n cap (rows.map Value.string)) (hz : ∀ s ∈ rows, s.size ≤ 1000000000) (hN : (inputL rows arch).length ≤ 1000000) (hF : (framesL rows arch).length ≤ 1000000) (hT : (loadA (framesL rows arch)).1.length ≤ 252144) :
    Calls Tryz.prog 19 #[.slice A n cap, .int .u32 arch, .int .i64 steps] w fun e w' => e = .returned (outV (bootO rows arch steps)) ∧ Ext w w' := by
  have HL := Lib.hid (fun W (h : Ext w W) => load_any A n cap arch rows W (hE.ext h) ha (hl.ext h) hz hF)
  have hS := fun W (h : Ext w W) => start_any (BA (loadA (framesL rows arch)).1) A n cap arch rows steps W (by rw [BA_size]; exact hT) ha (hl.ext h) hz hN
  obtain ⟨R, hR⟩ : ∃ R, R = bootO rows arch steps := ⟨_, rfl⟩
  rw [← hR]
  unfold bootO at hR
  generalize loadA (framesL rows arch) = Q at *
  obtain ⟨q1, q2, q3⟩ := Q
  simp only [BA_data] at hS
  by_cases h0 : q3 = 0
  · rw [if_neg (by simpa using h0)] at hR
    simp only at hR
    rw [← hR] at hS
    subst h0
    have HS := Lib.hid hS
    clear hS hR hl hz hN hF hT
    go_enter Tryz.func19, Tryz.ntmps19
    go_wp2_with fail
    have hx0 : Ext w (w.alloc (.cells #[.string ⟨#[]⟩, .int .i64 0, .int .i64 0] 28)) := (Ext.refl w).alloc _
    refine (HL.out _ hx0).mono ?_
    rintro e w1 ⟨v, rfl, hown, hx1⟩
    have hx01 := hx0.trans hx1
    have HB0 := Lib.hid ((outcome_new w).ext hx1)
    clear hown hx1 hx0
    go_wp2_with fail
    refine (HS.out _ hx01).mono ?_
    rintro e w2 ⟨rfl, hx2⟩
    have b2 := HB0.out.ext hx2
    have p0 := b2.cell (i := 0) rfl
    have p1 := b2.cell (i := 1) rfl
    have p2 := b2.cell (i := 2) rfl
    have f0 := blk_frozen b2 0
    have f1 := blk_frozen b2 1
    have f2 := blk_frozen b2 2
    have hxx := hx01.trans hx2
    unfold outV
    clear b2
    go_wp2_with fail
    exact bodyPost_ret (v := .agg #[.string (BA R.1), .int .i64 R.2.1, .int .i64 R.2.2]) (by simp [results, Tryz.results19, go_sem, p0, p1, p2]) rfl ⟨rfl, ((hxx.set (Nat.le_refl _) _).set (Nat.le_refl _) _).set (Nat.le_refl _) _⟩
  · rw [if_pos (by simpa using h0)] at hR
    simp only at hR
    subst hR
    have hq : (q3 != 0) = true := by simpa using h0
    clear hS hl hz hN hF hT h0
    go_enter Tryz.func19, Tryz.ntmps19
    go_wp2_with fail
    have hx0 : Ext w (w.alloc (.cells #[.string ⟨#[]⟩, .int .i64 0, .int .i64 0] 28)) := (Ext.refl w).alloc _
    refine (HL.out _ hx0).mono ?_
    rintro e w1 ⟨v, rfl, hown, hx1⟩
    have hxx := hx0.trans hx1
    have b2 := (outcome_new w).ext hx1
    have p0 := b2.cell (i := 0) rfl
    have p1 := b2.cell (i := 1) rfl
    have p2 := b2.cell (i := 2) rfl
    have f0 := blk_frozen b2 0
    have f1 := blk_frozen b2 1
    have f2 := blk_frozen b2 2
    clear b2 hown hx1 hx0
    go_wp2_with fail
    exact bodyPost_ret (v := .agg #[.string (BA []), .int .i64 q3, .int .i64 0]) (by simp [results, Tryz.results19, go_sem, p0, p1, p2, BA]) rfl ⟨rfl, ((hxx.set (Nat.le_refl _) _).set (Nat.le_refl _) _).set (Nat.le_refl _) _⟩
end Go.Proofs.YtjmglbppmolipaaGreatDoor
namespace Go.Proofs.YtjmglbppmolipaaGreatDoor
open Go.RowKit
open Go.Lib hiding intOf
set_option linter.unusedVariables false

theorem pieces_fit (s : ByteArray) (arch : Nat) (ha : arch < 4294967296) (hs : s.size ≤ 40000) (hp : prB s.data.toList = true) : ∀ p ∈ piecesP s arch, Fit p ∧ p.arch = arch := by
  intro p hp'
  obtain ⟨h1, h2⟩ := pieces_valid s arch hs hp p hp'
  unfold piecesP at hp'
  obtain ⟨i, hi, rfl⟩ := List.mem_map.1 hp'
  have hi := List.mem_range.1 hi
  have ht : totalN s.size ≤ 625 := by unfold totalN; omega
  exact ⟨⟨ha, h2, by show ((i : Nat) : Int) < 10000; omega, by show ((totalN s.size : Nat) : Int) < 10000; omega⟩, rfl⟩
theorem filter_all (l : List Pc) (arch : Nat) (h : ∀ p ∈ l, p.arch = arch) : (l.filter fun p => decide (p.arch = arch)) = l := List.filter_eq_self.2 fun p hp => decide_eq_true (h p hp)
theorem framesL_stripsN (ps : List Pc) (arch : Nat) (hv : ∀ p ∈ ps, Fit p ∧ p.arch = arch) : ∀ i, framesL (stripsN ps i) arch = ps.take (4 * i)
  | 0 => rfl
  | i + 1 => by
    rw [stripsN_succ, framesL_append, framesL_stripsN ps arch hv i]
    have h1 : framesL [stripB ps i] arch = chunkP ps i := by
      unfold framesL stripB
      rw [List.flatMap_cons, List.flatMap_nil, List.append_nil, framesP_cat _ _ (fun p hp => (hv p (chunk_mem hp)).1), filter_all _ _ (fun p hp => (hv p (chunk_mem hp)).2)]
    rw [h1]
    unfold chunkP
    rw [show 4 * (i + 1) = 4 * i + 4 by omega, List.take_add]
theorem framesL_strips (ps : List Pc) (arch : Nat) (hv : ∀ p ∈ ps, Fit p ∧ p.arch = arch) : framesL (stripsL ps) arch = ps := by
  unfold stripsL
  rw [framesL_stripsN ps arch hv, List.take_of_length_le (by omega)]
theorem load_strips (s : ByteArray) (arch : Nat) (ha : arch < 4294967296) (hs : s.size ≤ 40000) (hp : prB s.data.toList = true) (hT : 1 ≤ totalN s.size) : loadA (framesL (stripsL (piecesP s arch)) arch) = ((fullB s).data.toList, [], 0) := by
  rw [framesL_strips _ _ (pieces_fit s arch ha hs hp)]
  exact loadA_all s arch _ (fun x => Iff.rfl) hT
theorem strip_size (ps : List Pc) (i : Nat) (h : ∀ p ∈ ps, (encL p).length = 768) : (stripB ps i).size = 768 * min 4 (ps.length - 4 * i) := by
  unfold stripB
  rw [BA_size, flat_len _ (fun p hp => h p (chunk_mem hp)), chunk_len]
theorem sym_map (s : ByteArray) : (inputP s).length ≤ s.size + 1 := by
  unfold inputP
  split
  · simp
  · rw [List.length_append, List.length_map]; simp
theorem inputL_bound (rows : List ByteArray) (arch m : Nat) (h : ∀ s ∈ rows, s.size ≤ m) : (inputL rows arch).length ≤ 1 + (m + 1) * rows.length := by
  unfold inputL
  rw [List.length_cons]
  have : ∀ l : List ByteArray, (∀ s ∈ l, s.size ≤ m) → (l.flatMap inputP).length ≤ (m + 1) * l.length := by
    intro l
    induction l with
    | nil => intro _; simp
    | cons x l ih =>
      intro hl
      rw [List.flatMap_cons, List.length_append, List.length_cons, Nat.mul_succ]
      have := ih (fun y hy => hl y (List.mem_cons_of_mem _ hy))
      have := hl x List.mem_cons_self
      have := sym_map x
      omega
  have := this rows h
  omega
theorem framesL_bound (rows : List ByteArray) (arch m : Nat) (h : ∀ s ∈ rows, s.size ≤ m) : (framesL rows arch).length ≤ m * rows.length := by
  have fa : ∀ (l : List UInt8) (n : Nat), (framesTo l arch n).length ≤ n := by
    intro l n
    induction n with
    | zero => exact Nat.le_refl _
    | succ n ih =>
      rw [framesTo_succ, List.length_append]
      have : (frameAt l arch n).length ≤ 1 := by
        unfold frameAt
        split
        · split <;> simp
        · simp
      omega
  unfold framesL
  induction rows with
  | nil => simp
  | cons x l ih =>
    rw [List.flatMap_cons, List.length_append, List.length_cons, Nat.mul_succ]
    have h1 := ih (fun y hy => h y (List.mem_cons_of_mem _ hy))
    have h2 := h x List.mem_cons_self
    have h3 := fa x.data.toList (x.size - 767)
    have h4 : (framesP arch x).length ≤ x.size - 767 := fa _ _
    omega
theorem out_eq (s : ByteArray) (e k : Int) (w : World) :
    (binOp .eql 28 (.agg #[.string s, .int .i64 e, .int .i64 k]) (.agg #[.string s, .int .i64 e, .int .i64 k])).run Tryz.prog w = .ok (.bool true) w := by
  have hu : Tryz.prog.underlying 28 = some (.struct (Tryz.prog.fieldsOf 28)) := by unfold Program.fieldsOf; rw [Tryz.underlying28]
  rw [run_eql_struct, run_equalIn_struct w 9999 _ _ _ hu (by kernel_rfl)]
  unfold Program.fieldsOf
  rw [Tryz.underlying28]
  simp [Op.eqFields, go_sem, Tryz.underlying9]
theorem repeat_any (c : UInt8) (n : Nat) (w : World) (hn : n ≤ 100000) :
    Calls Tryz.prog 15 #[.string ⟨#[c]⟩, .int .i64 n] w fun e w' => e = .returned (.string (BA (List.replicate n c))) ∧ Ext w w' := by
  match n, hn with
  | 0, _ =>
    refine (Tryz.strings_Repeat_zero ⟨#[c]⟩ w).mono ?_
    rintro e w' ⟨rfl, rfl⟩
    exact ⟨rfl, Ext.refl _⟩
  | 1, _ =>
    refine (Tryz.strings_Repeat_one ⟨#[c]⟩ w).mono ?_
    rintro e w' ⟨rfl, rfl⟩
    exact ⟨rfl, Ext.refl _⟩
  | n + 2, hn =>
    refine (Tryz.strings_Repeat_main ⟨#[c]⟩ (n + 2) w (by omega) (by omega) (by show 1 * (n + 2) ≤ _; omega) (show 0 < 1 by decide)).mono ?_
    rintro e w' ⟨rfl, hx⟩
    refine ⟨?_, hx⟩
    have e1 : (⟨#[c]⟩ : ByteArray).data.toList = [c] := rfl
    rw [e1, repeatL_one]
    rfl
/-- a frame between cells -/
def rowR (s : ByteArray) (arch A B m : Nat) : ByteArray := BA (List.replicate A 48 ++ (encL (pieceP s arch m) ++ List.replicate B 63))
def rowsR (s : ByteArray) (arch b A B T i : Nat) : List ByteArray := (List.range i).map fun j => rowR s arch A B ((j * 7 + b) % T)
/-- the text of the chapter's example -/
def aText : ByteArray := BA (List.replicate 300 36)
theorem aText_data : aText.data.toList = List.replicate 300 36 := BA_data _
theorem aText_size : aText.size = 300 := by unfold aText; rw [BA_size, List.length_replicate]
theorem aText_pr : prB aText.data.toList = true := by rw [aText_data]; decide +kernel
theorem runS_stop (k n : Nat) (m : MS) (h1 : m.pc < 262144) (h2 : m.mem m.pc = 36) : runS (k + 1) n m = (m.out, 0, n + 1) := by
  unfold runS
  rw [if_neg (by omega), if_pos h2]
theorem memT_at (at_ : Nat) (l : List UInt8) (k : Nat) (x : UInt8) (h : l[k]? = some x) : memT at_ l (at_ + k) = x.toNat := by
  have hk : k < l.length := by
    rcases Nat.lt_or_ge k l.length with h' | h'
    · exact h'
    · rw [List.getElem?_eq_none h'] at h; cases h
  unfold memT
  rw [if_pos ⟨by omega, by omega⟩, show at_ + k - at_ = k by omega, h]
  rfl
theorem memT_first (at_ : Nat) (l : List UInt8) (x : UInt8) (h : l[0]? = some x) : memT at_ l at_ = x.toNat := memT_at at_ l 0 x h
theorem runS_at (k n at_ : Nat) (l : List UInt8) (input : List Nat) (h1 : at_ < 262144) (h2 : (m0 at_ l at_ input).mem at_ = (36 : UInt8).toNat) : runS (k + 1) n (m0 at_ l at_ input) = ([], 0, n + 1) := runS_stop k n _ h1 h2
theorem m0_first (at_ : Nat) (l : List UInt8) (start : Nat) (input : List Nat) (x : UInt8) (h : l[0]? = some x) : (m0 at_ l start input).mem at_ = x.toNat := memT_first at_ l x h
theorem aBoot : bootO (stripsL (piecesP aText 7)) 7 10 = ([], 0, 1) := by
  unfold bootO
  rw [load_strips aText 7 (by decide) (by rw [aText_size]; decide) aText_pr (by rw [aText_size]; decide)]
  rw [if_neg (by decide)]
  unfold startO runO
  rw [if_neg (by decide), if_neg (by decide)]
  have hm := m0_first 10000 (fullB aText).data.toList 10000 (inputL (stripsL (piecesP aText 7)) 7) 36 (by
    rw [full_data, aText_data, List.getElem?_append_left (by rw [List.length_replicate]; decide), List.getElem?_replicate, if_pos (by decide)])
  have hr : runS (10 : Int).toNat 0 (m0 10000 (fullB aText).data.toList 10000 (inputL (stripsL (piecesP aText 7)) 7)) = ([], 0, 1) := by
    exact runS_at 9 0 10000 _ _ (by decide) hm
  rw [hr]
  rfl
theorem nilBoot : bootO [] 7 10 = ([], 9, 0) := rfl
set_option maxRecDepth 100000 in
set_option maxHeartbeats 1600000 in
theorem alive_any (w : World) (hE : Env w) : Calls Tryz.prog 10 #[] w fun e w' => e = .returned (.bool true) ∧ Ext w w' := by
  have hz300 : aText.size ≤ maxLen := by rw [aText_size]; decide
  have hsp : splitA aText 7 = (piecesP aText 7, 0) := by
    unfold splitA
    rw [if_neg (by rw [aText_size]; decide), if_neg (by rw [aText_pr]; decide)]
  have hst := fun W (h : Env W) => strips_any aText 7 W hz300 (by decide) h
  rw [hsp] at hst
  have hpl : (piecesP aText 7).length = 5 := by rw [pieces_len, aText_size]; rfl
  have hen : ∀ p ∈ piecesP aText 7, (encL p).length = 768 := fun p hp => enc_len (check_ok (pieces_fit aText 7 (by decide) (by rw [aText_size]; decide) aText_pr p hp).1.ok).2.2.2.2.1
  have hsl : stripsL (piecesP aText 7) = [stripB (piecesP aText 7) 0, stripB (piecesP aText 7) 1] := by unfold stripsL; rw [hpl]; rfl
  have hz0 := strip_size (piecesP aText 7) 0 hen
  have hz1 := strip_size (piecesP aText 7) 1 hen
  rw [hpl] at hz0 hz1
  have hz0 : (stripB (piecesP aText 7) 0).size = 3072 := hz0
  have hz1 : (stripB (piecesP aText 7) 1).size = 768 := hz1
  have hall : ∀ s ∈ stripsL (piecesP aText 7), s.size ≤ 3072 := by
    rw [hsl]
    intro s hs
    simp only [List.mem_cons, List.not_mem_nil, or_false] at hs
    rcases hs with rfl | rfl <;> omega
  have hin := inputL_bound _ 7 3072 hall
  have hfr := framesL_bound _ 7 3072 hall
  have hld := load_strips aText 7 (by decide) (by rw [aText_size]; decide) aText_pr (by rw [aText_size]; decide)
  have hlen2 : (stripsL (piecesP aText 7)).length = 2 := by rw [hsl]; rfl
  rw [hlen2] at hin hfr
  have hB := fun W (h : Env W) A c (hl : Lst W A 2 c ((stripsL (piecesP aText 7)).map Value.string)) => boot_any A 2 c 7 _ 10 W h (by decide) hl (fun s hs => by have := hall s hs; omega) (by omega) (by omega) (by
    rw [hld]
    show (fullB aText).size ≤ _
    rw [full_size, aText_size]; decide)
  rw [aBoot] at hB
  have hN := fun W (h : Env W) => boot_any none 0 0 7 [] 10 W h (by decide) (Lst.nil W) (fun s hs => by cases hs) (by decide) (by decide) (by decide)
  rw [nilBoot] at hN
  have HRep := Lib.hid (fun W => repeat_any 36 300 W (by decide))
  have HS := Lib.hid hst
  have HB := Lib.hid hB
  have HN := Lib.hid hN
  have HSL := Lib.hid hsl
  have HZ0 := Lib.hid hz0
  have HZ1 := Lib.hid hz1
  have HE := Lib.hid hE
  have hq := fun s => out_eq s
  clear hst hB hN hz0 hz1 hin hfr hld hall hen hpl hsp hz300 hlen2 hsl hE
  go_enter Tryz.func10, Tryz.ntmps10
  go_wp2_with fail
  refine (HRep.out _).mono ?_
  rintro e w1 ⟨rfl, hx1⟩
  rw [show BA (List.replicate 300 36) = aText from rfl]
  go_wp2_with fail
  refine (HS.out _ (HE.out.ext hx1)).mono ?_
  rintro e w2 ⟨v, rfl, hown, hx2⟩
  have hown2 : w2.ownsRow w1.heap.size 9 1 v 2 ((stripsL (piecesP aText 7)).map Value.string) := by
    have h := hown
    rw [show (stripsL (piecesP aText 7)).length = 2 by rw [HSL.out]; rfl] at h
    exact h
  obtain ⟨A, c, rfl, hl⟩ := Lst.of_own hown2
  have hx12 := hx1.trans hx2
  have hr := hl.room
  have hm := hl.max
  unfold maxLen at hm
  have HL := Lib.hid hl
  clear hown hown2 hl hx1 hx2
  go_wp2_with fail
  refine (HN.out _ (HE.out.ext hx12)).mono ?_
  rintro e w3 ⟨rfl, hx3⟩
  have hx13 := hx12.trans hx3
  have hb3 : Blk (w3.alloc (.cells #[.string ⟨#[]⟩, .int .i64 9, .int .i64 0] 28)) w3.heap.size 28 [.string ⟨#[]⟩, .int .i64 9, .int .i64 0] := heap_alloc_new w3 _
  have hx14 : Ext w (w3.alloc (.cells #[.string ⟨#[]⟩, .int .i64 9, .int .i64 0] 28)) := hx13.alloc _
  have hL4 := Lib.hid (HL.out.ext (hx3.alloc (.cells #[.string ⟨#[]⟩, .int .i64 9, .int .i64 0] 28)))
  have HB3 := Lib.hid hb3
  clear hb3 hx3
  rw [show outV ([], 9, 0) = .agg #[.string ⟨#[]⟩, .int .i64 9, .int .i64 0] from rfl]
  go_wp2_with fail
  refine (HB.out _ (HE.out.ext hx14) _ _ hL4.out).mono ?_
  rintro e w5 ⟨rfl, hx5⟩
  have hx15 := hx14.trans hx5
  have hb5 := (HB3.out.ext hx5).alloc (.cells #[.string ⟨#[]⟩, .int .i64 0, .int .i64 1] 28)
  have hb6 : Blk (w5.alloc (.cells #[.string ⟨#[]⟩, .int .i64 0, .int .i64 1] 28)) w5.heap.size 28 [.string ⟨#[]⟩, .int .i64 0, .int .i64 1] := heap_alloc_new w5 _
  have hx16 := hx15.alloc (.cells #[.string ⟨#[]⟩, .int .i64 0, .int .i64 1] 28)
  have hL6 := hL4.out.ext (hx5.alloc (.cells #[.string ⟨#[]⟩, .int .i64 0, .int .i64 1] 28))
  rw [show outV ([], 0, 1) = .agg #[.string ⟨#[]⟩, .int .i64 0, .int .i64 1] from rfl]
  obtain ⟨q, off, rfl, hc⟩ := hL6.at_ (by decide)
  have s0 := hc 0 (by rw [HSL.out]; decide)
  have s1 := hc 1 (by rw [HSL.out]; decide)
  have e0 : (((stripsL (piecesP aText 7)).map Value.string)[0]?) = some (.string (stripB (piecesP aText 7) 0)) := by rw [HSL.out]; rfl
  have e1 : (((stripsL (piecesP aText 7)).map Value.string)[1]?) = some (.string (stripB (piecesP aText 7) 1)) := by rw [HSL.out]; rfl
  rw [List.getElem?_eq_getElem (by rw [HSL.out]; decide)] at e0 e1
  rw [Option.some.inj e0] at s0
  rw [Option.some.inj e1] at s1
  rw [Nat.add_zero] at s0
  have hz0 := HZ0.out
  have hz1 := HZ1.out
  have p0 := hb5.cell (i := 0) rfl
  have p1 := hb5.cell (i := 1) rfl
  have p2 := hb5.cell (i := 2) rfl
  clear e0 e1 hc hL6 hb5 hb6 hx5 hx15 hx14
  generalize stripB (piecesP aText 7) 0 = S0 at *
  generalize stripB (piecesP aText 7) 1 = S1 at *
  go_wp2_with fail
  go_ret
  exact ⟨rfl, hx16⟩
end Go.Proofs.YtjmglbppmolipaaGreatDoor
namespace Go.Proofs.YtjmglbppmolipaaGreatDoor
open Go.RowKit
open Go.Lib hiding intOf
set_option linter.unusedVariables false

theorem str_eqB (x : ByteArray) : (x.toList != x.toList) = false := by simp
set_option maxRecDepth 100000 in
theorem same28_any (A B : Option Addr) (n c d : Nat) (rows : List ByteArray) (w : World) (hl : Lst w A n c (rows.map Value.string)) (hk : Lst w B n d (rows.map Value.string)) :
    Calls Tryz.prog 17 #[.slice A n c, .slice B n d] w fun e w' => e = .returned (.bool true) ∧ Ext w w' := by
  have hlen := hl.len
  have hroom := hl.room
  have hmax := hl.max
  have hroom2 := hk.room
  have hmax2 := hk.max
  unfold maxLen at hmax hmax2
  have HL := Lib.hid hlen
  clear hlen
  go_enter Tryz.func17, Tryz.ntmps17
  go_wp2_with fail
  go_loopw [5] (fun i wr => ∃ j : Nat, j ≤ n ∧ i = .int .i64 j ∧ Ext w wr) (fun i _ => n - (intOf i).toNat)
  case atStart => exact ⟨0, Nat.zero_le _, rfl, Ext.refl _⟩
  case round =>
    obtain ⟨j, hj, rfl, hx⟩ := hrel
    by_cases hlt : j < n
    · obtain ⟨b1, o1, rfl, hc1⟩ := hl.at_ (by omega)
      obtain ⟨b2, o2, rfl, hc2⟩ := hk.at_ (by omega)
      have hj1 : j < (rows.map Value.string).length := by have := HL.out; omega
      have e1 := hx.cell (hc1 j hj1)
      have f1 := hx.cell (hc2 j hj1)
      rw [List.getElem_map] at e1 f1
      generalize rows[j]'(by simpa using hj1) = x at *
      have hq := str_eqB x
      have HC1 := Lib.hid hc1
      have HC2 := Lib.hid hc2
      clear hc1 hc2 hj1
      go_wp2_with fail
      go_quiet (fail)
      go_wp2_with fail
      go_roundw
      case rel => exact ⟨j + 1, by omega, by go_num, hx.drewN _⟩
      case measure => simp [intOf]; omega
    · obtain rfl : j = n := by omega
      go_wp2_with fail
      go_ret
      exact ⟨rfl, hx⟩
/-- the first r frames of strip k -/
def ptB (ps : List Pc) (k r : Nat) : ByteArray := BA (((ps.drop (4 * k)).take r).flatMap encL)
def outP (ps : List Pc) (i : Nat) : List ByteArray := stripsN ps (i / 4) ++ (if i % 4 = 0 then [] else [ptB ps (i / 4) (i % 4)])
theorem ptB_succ (ps : List Pc) (k r : Nat) (h : 4 * k + r < ps.length) : ptB ps k (r + 1) = ptB ps k r ++ BA (encL ps[4 * k + r]) := by
  unfold ptB
  have hl : r < (ps.drop (4 * k)).length := by rw [List.length_drop]; omega
  rw [List.take_succ_eq_append_getElem hl, List.flatMap_append, BA_append, List.getElem_drop]
  simp
theorem outP_succ (ps : List Pc) (i : Nat) (h : i < ps.length) : outP ps (i + 1) = stripsN ps (i / 4) ++ [ptB ps (i / 4) (i % 4 + 1)] := by
  unfold outP
  by_cases h3 : i % 4 = 3
  · rw [if_pos (by omega), show (i + 1) / 4 = i / 4 + 1 by omega, stripsN_succ, List.append_nil, h3]
    rfl
  · rw [if_neg (by omega), show (i + 1) / 4 = i / 4 by omega, show (i + 1) % 4 = i % 4 + 1 by omega]
theorem outP_end (ps : List Pc) : outP ps ps.length = stripsL ps := by
  unfold outP stripsL
  by_cases h : ps.length % 4 = 0
  · rw [if_pos h, List.append_nil, show (ps.length + 3) / 4 = ps.length / 4 by omega]
  · rw [if_neg h, show (ps.length + 3) / 4 = ps.length / 4 + 1 by omega, stripsN_succ]
    congr 1
    unfold ptB stripB chunkP
    rw [List.take_of_length_le (by rw [List.length_drop]; omega), List.take_of_length_le (by rw [List.length_drop]; omega)]
theorem own_set_at {w : World} {base : Nat} {e : TypeId} {v : Value} {n : Nat} {xs : List Value} {x : Value} (h : w.ownsRow base e 1 v (n + 1) (xs ++ [x])) (hn : xs.length = n) :
    ∃ g cap, v = .slice (some ⟨g, 0, none⟩) (n + 1) cap ∧ n + 1 ≤ cap ∧ cap ≤ maxLen ∧ base ≤ g ∧ w.cell? ⟨g, n, none⟩ = some x ∧ w.frozen? ⟨g, n, none⟩ = false ∧ ∀ y, (w.setCell ⟨g, n, none⟩ y).ownsRow base e 1 v (n + 1) (xs ++ [y]) := by
  obtain ⟨g, cap, rfl, h1, h2, h3, h4, h5, h6⟩ := own_pop h hn
  exact ⟨g, cap, rfl, h1, h2, (own_lt h rfl).1, h3, h4, h6⟩
set_option maxRecDepth 100000 in
set_option maxHeartbeats 6400000 in
theorem rstrips_any (s : ByteArray) (arch : Nat) (w : World) (hs : s.size ≤ maxLen) (ha : arch < 4294967296) :
    Calls Tryz.prog 16 #[.string s, .int .u32 arch] w (StrPost w (stripsL (splitA s arch).1) (splitA s arch).2) := by
  have hsp := rsplit_any s arch w hs
  rcases splitA_cases s arch with ⟨h1, h2⟩ | ⟨h40, hp, hsa⟩
  · rw [h1] at hsp ⊢
    have hE2 : ((splitA s arch).2 != 0) = true := by simpa using h2
    have HS := Lib.hid hsp
    generalize (splitA s arch).2 = E at *
    clear hsp h1 h2
    go_enter Tryz.func16, Tryz.ntmps16
    go_wp2_with fail
    refine HS.out.mono ?_
    rintro e w1 ⟨v, rfl, hown, hx⟩
    clear hown
    go_wp2_with fail
    go_ret2
    exact ⟨.slice none 0 0, rfl, ⟨rfl, .inl ⟨rfl, rfl⟩⟩, hx⟩
  · rw [hsa] at hsp ⊢
    have hv := pieces_valid s arch h40 hp
    have hn : (piecesP s arch).length ≤ 625 := by rw [pieces_len]; unfold totalN; omega
    simp only at hsp ⊢
    generalize piecesP s arch = ps at *
    have HS := Lib.hid hsp
    have HV := Lib.hid (fun p hp W => by
      have h := rencode_any p W (by rw [(hv p hp).1]; exact ha) (by rw [(check_ok (hv p hp).2).2.2.2.2.1]; decide)
      unfold encodeA at h
      rw [if_pos (hv p hp).2] at h
      exact h : ∀ p ∈ ps, ∀ W, Calls Tryz.prog 36 #[p.val] W fun e w' => e = .returned (.tuple #[.string (BA (encL p)), .int .i64 0]) ∧ Ext W w')
    have HZ := Lib.hid (fun p hp => enc_len (check_ok (hv p hp).2).2.2.2.2.1 : ∀ p ∈ ps, (encL p).length = 768)
    obtain ⟨i0, hi, hz0, hz1, hz2⟩ := info_parts strInfoB
    obtain ⟨n, hnn⟩ : ∃ n, n = ps.length := ⟨_, rfl⟩
    rw [← hnn] at hn
    have HN := Lib.hid hnn
    clear hsp hsa hv hnn
    go_enter Tryz.func16, Tryz.ntmps16
    go_wp2_with fail
    refine HS.out.mono ?_
    rintro e w1 hpp
    obtain ⟨A, cap, rfl, hpl, hx1⟩ := hpp.open
    rw [← HN.out] at hpl ⊢
    have hroom := hpl.room
    have hmax := hpl.max
    have HPL := Lib.hid hpl
    unfold maxLen at hmax
    clear hpp hpl
    go_wp2_with fail
    go_loopw [8, 9] (fun ov iv wr => ∃ i : Nat, iv = .int .i64 i ∧ i ≤ n ∧ wr.ownsRow w1.heap.size 9 1 ov (outP ps i).length ((outP ps i).map Value.string) ∧ Ext w1 wr) (fun _ iv _ => n - (intOf iv).toNat)
    case atStart => exact ⟨0, rfl, Nat.zero_le _, own_empty w1 _ _ _ (Nat.le_refl _), (Ext.refl _).alloc _⟩
    case round =>
      obtain ⟨i, rfl, hiN, hown, hx⟩ := hrel
      by_cases hlt : i < n
      · have hip : i < ps.length := by rw [← HN.out]; exact hlt
        obtain ⟨b, rfl, hc⟩ := HPL.out.at_ (by omega)
        obtain ⟨e0, e1, e2, e3⟩ := hc i hip
        have e0 := hx.cell e0
        have e1 := hx.cell e1
        have e2 := hx.cell e2
        have e3 := hx.cell e3
        have hmem : ps[i] ∈ ps := List.getElem_mem _
        have hos := outP_succ ps i hip
        have hpt := ptB_succ ps (i / 4) (i % 4) (by omega)
        have e4 : ps[4 * (i / 4) + i % 4]'(by omega) = ps[i] := by congr 1; omega
        rw [e4] at hpt
        have hz := HZ.out _ hmem
        have HEN0 := HV.out _ hmem
        have hptz : (ptB ps (i / 4) (i % 4)).size ≤ 3072 := by
          unfold ptB
          rw [BA_size, flat_len _ (fun p hp => HZ.out p (List.mem_of_mem_drop (List.mem_of_mem_take hp))), List.length_take]; omega
        generalize ps[i] = x at *
        have HEN : Hid (∀ W, Calls Tryz.prog 36 #[.agg #[.int .u32 x.arch, .int .i64 x.index, .int .i64 x.total, .string x.text]] W fun e w' => e = .returned (.tuple #[.string (BA (encL x)), .int .i64 0]) ∧ Ext W w') := HEN0
        obtain ⟨k, hk⟩ : ∃ k, k = i / 4 := ⟨_, rfl⟩
        have hki : (i : Int) / 4 = (k : Int) := by omega
        obtain ⟨r, hr⟩ : ∃ r, r = i % 4 := ⟨_, rfl⟩
        have hri : (i : Int) % 4 = (r : Int) := by omega
        have hkl : (stripsN ps k).length = k := stripsN_len ps k
        have hol : outP ps i = stripsN ps k ++ (if r = 0 then [] else [ptB ps k r]) := by unfold outP; rw [hk, hr]
        rw [← hk, ← hr] at hos hpt hptz
        rw [hol] at hown
        have hzb : (BA (encL x)).size = 768 := by rw [BA_size]; exact hz
        have HOS := Lib.hid hos
        have HPT := Lib.hid hpt
        have HKL := Lib.hid hkl
        have HOWN := Lib.hid hown
        have hk157 : k ≤ 157 := by omega
        have hzl : (BA (encL x)).size ≤ 768 := Nat.le_of_eq hzb
        clear hc hos hpt e4 hz HEN0 hown hkl hol hip hmem hk hzb
        generalize encL x = X at *
        generalize ptB ps k (r + 1) = Y at *
        generalize hPP : ptB ps k r = P0 at *
        have hP0' : P0 = ptB ps k r := hPP.symm
        clear hPP
        generalize stripsN ps k = L at *
        by_cases hr0 : r = 0
        · have HO : Hid (wr.ownsRow w1.heap.size 9 1 u8 k (L.map Value.string)) := by
            have h := HOWN.out
            rw [if_pos hr0, List.append_nil, HKL.out] at h
            exact h
          have hP0 : P0 = ⟨#[]⟩ := by rw [hP0', hr0]; rfl
          have hY : Hid (Y = BA X) := by
            show _ = _
            rw [HPT.out, hP0, show (⟨#[]⟩ : ByteArray) = BA [] from rfl, ← BA_append, List.nil_append]
          have hri0 : (i : Int) % 4 = 0 := by omega
          have HX := Lib.hid hx
          clear HOWN HPT hP0 hP0' hri hr0 hr
          go_wp2_with fail
          refine (HEN.out _).mono ?_
          rintro e w5 ⟨rfl, hx5⟩
          have HO5 := Lib.hid (own_ext HO.out hx5)
          have hx15 := HX.out.trans hx5
          clear e0 e1 e2 e3
          go_wp2_with (at_builtin; refine wpList_append_own _ rfl (.tmp 39) (.tmp 40) _ rfl w1.heap.size 9 i0 _ 1 16 Tryz.underlying22 hi hz0 hz1 hz2 rfl (by omega) _ _ _ rfl (HO5.out.alloc _) ⟨w5.heap.size, 0, none⟩ 1 1 [.string ⟨#[]⟩] rfl rfl ?d1 ?d2 ?d3 ?d4 ?d5 ?_)
          case d1 =>
            intro j u hu
            match j, hu with
            | 0, hu => simp at hu; subst hu; go_cell
          case d2 =>
            intro u hu
            simp at hu
            subst hu; rfl
          case d3 => unfold maxLen; omega
          case d4 => omega
          case d5 => (have hc5 := hx15.size; try simp at hc5); simp; omega
          intro v' w2 hown2 hgr _
          have hx3 := (hx15.alloc (.cells #[.string ⟨#[]⟩] 9)).grown hgr (fun k hk => (HO5.out.lt k hk).1)
          have HO2 := Lib.hid hown2
          have HG := Lib.hid hgr
          clear hown2 hgr
          obtain ⟨g, cap2, rfl, q1, q2, q3, q4, q5, q6⟩ := own_set_at HO2.out (by rw [List.length_map]; exact HKL.out)
          unfold maxLen at q2
          have HQ := Lib.hid q6
          clear q6
          go_wp2_with fail
          go_roundw
          case rel => exact ⟨i + 1, by go_num, by omega, by
            rw [HOS.out, List.length_append, HKL.out, strsV_snoc, hY.out]
            have h := HQ.out (.string (BA X))
            exact h, hx3.set q3 _⟩
          case measure => simp [intOf]; omega
        · have HO : Hid (wr.ownsRow w1.heap.size 9 1 u8 (k + 1) (L.map Value.string ++ [.string P0])) := by
            have h := HOWN.out
            rw [if_neg hr0, List.length_append, HKL.out, strsV_snoc] at h
            exact h
          have HX := Lib.hid hx
          have hrn : ((r : Int) == 0) = false := by simp; omega
          clear HOWN hP0' hr0 hr
          go_wp2_with fail
          refine (HEN.out _).mono ?_
          rintro e w5 ⟨rfl, hx5⟩
          have HO5 := Lib.hid (own_ext HO.out hx5)
          have hx15 := HX.out.trans hx5
          obtain ⟨g, cap2, rfl, q1, q2, q3, q4, q5, q6⟩ := own_set_at HO5.out (by rw [List.length_map]; exact HKL.out)
          unfold maxLen at q2
          have HQ := Lib.hid q6
          clear q6 e0 e1 e2 e3
          go_wp2_with fail
          go_roundw
          case rel => exact ⟨i + 1, by go_num, by omega, by
            rw [HOS.out, List.length_append, HKL.out, strsV_snoc, HPT.out]
            have h := HQ.out (.string (P0 ++ BA X))
            exact h, hx15.set q3 _⟩
          case measure => simp [intOf]; omega
      · have HI : Hid (i = ps.length) := by show _ = _; rw [← HN.out]; omega
        have HO := Lib.hid hown
        clear hown
        go_wp2_with fail
        go_ret2
        exact ⟨_, rfl, by have h := HO.out; rw [HI.out, outP_end] at h; exact own_base h hx1.size, hx1.trans hx⟩
end Go.Proofs.YtjmglbppmolipaaGreatDoor
