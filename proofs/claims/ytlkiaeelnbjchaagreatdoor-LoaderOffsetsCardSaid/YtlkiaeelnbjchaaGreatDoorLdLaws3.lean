/- The law LoaderArchives returns true. (Layer 27) -/
import Derived.Test.YtlkiaeelnbjchaaGreatDoorLdLaws2
namespace Go.Proofs.YtlkiaeelnbjchaaGreatDoor
open Go.RowKit
open Go.Lib hiding intOf
set_option linter.unusedVariables false

/-- an append of a list of strings to a row of strings that the function owns -/
theorem wpList_append_strs {w : World} {ops : Array Oper} {rest : List Oper} {o : Oper} {a : Act} {Q : Exit → Act → World → Prop} (hgd : o.guard = none) (s x : Operand)
    (ho : o.op = .call { callee := .builtin .append, args := #[s, x], argTypes := #[22, 22] })
    (base : Nat) (v : Value) (n : Nat) (xs : List Value) (hs : a.eval s = v) (hown : w.ownsRow base 9 1 v n xs) (b off m c : Nat) (rows : List ByteArray) (hx : a.eval x = .slice (some ⟨b, off, none⟩) m c) (hm : m = rows.length)
    (hl : ∀ i (h : i < (rows.map Value.string).length), w.cell? ⟨b, off + i, none⟩ = some (rows.map Value.string)[i]) (hb : n + m ≤ 100000) (hbase : base ≤ w.heap.size)
    (h : ∀ v' w', w'.ownsRow base 9 1 v' (n + m) (xs ++ rows.map Value.string) → w.grownBy w' v.ownBlock → wpList Tryz.prog ops Q rest (a.put o.dst v') w') : wpList Tryz.prog ops Q (o :: rest) a w := by
  obtain ⟨i0, hi0, hz0, hz1, hz2⟩ := info_parts strInfo27
  refine wpList_append_own _ hgd s x _ ho base _ i0 _ 1 16 Tryz.underlying22 hi0 hz0 hz1 hz2 rfl (by omega) v n xs hs hown ⟨b, off, none⟩ m c (rows.map Value.string) hx (by rw [List.length_map, hm, Nat.mul_one]) ?_ ?_ (by unfold maxLen; omega) (by omega) hbase fun v' w' k1 k2 _ => h v' w' k1 k2
  · intro j u hj
    have hj' : j < (rows.map Value.string).length := (List.getElem?_eq_some_iff.1 hj).1
    have h1 := hl j hj'
    rw [List.getElem?_eq_getElem hj'] at hj
    rw [Option.some.inj hj] at h1
    have e : (⟨b, off, none⟩ : Addr).add j = ⟨b, off + j, none⟩ := by
      unfold Addr.add
      split
      · rename_i h0; rw [h0]; rfl
      · rfl
    rw [e]; exact h1
  · intro u hu
    obtain ⟨r, -, rfl⟩ := List.mem_map.1 hu
    rfl
theorem frows_size (s : ByteArray) (arch : Nat) (hs : s.size ≤ 300) (hp : prB s.data.toList = true) : ∀ r ∈ frowsP s arch, r.size = 768 := by
  intro r hr
  unfold frowsP at hr
  obtain ⟨p, hp', rfl⟩ := List.mem_map.1 hr
  rw [BA_size, enc_len (check_ok (pieces_valid s arch (by omega) hp p hp').2).2.2.2.2.1]
theorem framesL_own (s : ByteArray) (arch : Nat) (ha : arch < 4294967296) (hs : s.size ≤ 300) (hp : prB s.data.toList = true) : framesL (frowsP s arch) arch = piecesP s arch :=
  framesL_enc arch ha _ (pieces_valid s arch (by omega) hp)
theorem framesL_alien (s : ByteArray) (a1 arch : Nat) (ha : a1 < 4294967296) (hne : a1 ≠ arch) (hs : s.size ≤ 300) (hp : prB s.data.toList = true) : framesL (frowsP s a1) arch = [] :=
  framesL_other arch _ (fun p hp' => by
    obtain ⟨h1, h2⟩ := pieces_valid s a1 (by omega) hp p hp'
    exact ⟨by omega, by omega, h2⟩)

set_option maxRecDepth 100000 in
set_option maxHeartbeats 3200000 in
theorem lawArch_any (s o : ByteArray) (arch : Nat) (w : World) (hs : s.size ≤ maxLen) (ho : o.size ≤ maxLen) (ha : arch < 4294967296) (hE : Env w) :
    Calls Tryz.prog 8 #[.string s, .string o, .int .u32 arch] w fun e w' => e = .returned (.bool true) ∧ Ext w w' := by
  have HW := Lib.hid (fun W (h : Env W) => awake7_any W h)
  obtain ⟨a1, ha1⟩ : ∃ a1, a1 = (arch + 1) % 4294967296 := ⟨_, rfl⟩
  have ha1l : a1 < 4294967296 := by omega
  have hne : a1 ≠ arch := by omega
  have hwr : ((arch : Int) + 1) % 4294967296 = (a1 : Int) := by omega
  have HF1 := Lib.hid (fun W (h : Env W) => lframes_any s arch W hs ha h)
  have HF2 := Lib.hid (fun W (h : Env W) => lframes_any o a1 W ho ha1l h)
  clear ha1
  go_enter Tryz.func8, Tryz.ntmps8
  go_wp2_with fail
  refine (HF1.out _ hE).mono ?_
  rintro e w1 ⟨v1, b1, rfl, hx1, hc1⟩
  go_wp2_with fail
  refine (HF2.out _ (hE.ext hx1)).mono ?_
  rintro e w2 ⟨v2, b2, rfl, hx2, hc2⟩
  have hx12 := hx1.trans hx2
  cases b1 with
  | false =>
    clear hc1 hc2
    go_wp2_with fail
    refine (HW.out _ (hE.ext hx12)).mono ?_
    rintro e w3 ⟨rfl, hx3⟩
    go_wp2_with fail
    go_ret
    exact ⟨rfl, hx12.trans hx3⟩
  | true =>
  cases b2 with
  | false =>
    clear hc1 hc2
    go_wp2_with fail
    refine (HW.out _ (hE.ext hx12)).mono ?_
    rintro e w3 ⟨rfl, hx3⟩
    go_wp2_with fail
    go_ret
    exact ⟨rfl, hx12.trans hx3⟩
  | true =>
  obtain ⟨hs3, hsp, hsT, ho1⟩ := hc1 rfl
  obtain ⟨ho3, hop, hoT, ho2⟩ := hc2 rfl
  have hsz1 := frows_size s arch hs3 hsp
  have hsz2 := frows_size o a1 ho3 hop
  have hF1 := framesL_own s arch ha hs3 hsp
  have hF2 : framesL (frowsP o a1 ++ frowsP s arch) arch = piecesP s arch := by rw [framesL_append, framesL_alien o a1 arch ha1l hne ho3 hop, hF1]; rfl
  have hlA : loadA (piecesP s arch) = ((fullB s).data.toList, [], 0) := loadA_all s arch _ (fun _ => Iff.rfl) hsT
  have hlen := pieces_len s arch
  have hl1 := frows_len s arch
  have hl2 := frows_len o a1
  have hT5 : totalN s.size ≤ 5 := by unfold totalN; omega
  have hU5 : totalN o.size ≤ 5 := by unfold totalN; omega
  obtain ⟨F, hF⟩ : ∃ F, F = fullB s := ⟨_, rfl⟩
  rw [← hF] at hlA
  have hFF : BA F.data.toList = F := bytes_inj (BA_data _)
  generalize totalN s.size = T at *
  generalize totalN o.size = U at *
  generalize frowsP s arch = C at *
  generalize frowsP o a1 = D at *
  generalize piecesP s arch = L at *
  obtain ⟨A1, c1, rfl, hL1⟩ := Lst.of_own ho1
  obtain ⟨A2, c2, rfl, hL2⟩ := Lst.of_own ho2
  obtain ⟨q1, o1, rfl, k1⟩ := hL1.at_ hsT
  obtain ⟨q2, o2, rfl, k2⟩ := hL2.at_ hoT
  have hL1 := hL1.ext hx2
  have HP1 := Lib.hid (fun W (hx : Ext w2 W) => pieces_any (some ⟨q1, o1, none⟩) T c1 arch C W ((hE.ext hx12).ext hx) ha (hL1.ext hx) (fun r hr => by rw [hsz1 r hr]; decide) (by rw [hF1, hlen]; omega))
  have HP2 := Lib.hid (fun W A n cap (hx : Ext w2 W) (h : Lst W A n cap ((D ++ C).map Value.string)) => pieces_any A n cap arch (D ++ C) W ((hE.ext hx12).ext hx) ha h (fun r hr => by
    rcases List.mem_append.1 hr with hr | hr
    · rw [hsz2 r hr]; decide
    · rw [hsz1 r hr]; decide) (by rw [hF2, hlen]; omega))
  have HQ1 := Lib.hid (fun W (hx : Ext w2 W) => load_any (some ⟨q1, o1, none⟩) T c1 arch C W ((hE.ext hx12).ext hx) ha (hL1.ext hx) (fun r hr => by rw [hsz1 r hr]; decide) (by rw [hF1, hlen]; omega))
  have HQ2 := Lib.hid (fun W A n cap (hx : Ext w2 W) (h : Lst W A n cap ((D ++ C).map Value.string)) => load_any A n cap arch (D ++ C) W ((hE.ext hx12).ext hx) ha h (fun r hr => by
    rcases List.mem_append.1 hr with hr | hr
    · rw [hsz2 r hr]; decide
    · rw [hsz1 r hr]; decide) (by rw [hF2, hlen]; omega))
  rw [hF1] at HP1 HQ1
  rw [hF2] at HP2 HQ2
  rw [hlA] at HQ1 HQ2
  simp only at HQ1 HQ2
  rw [hFF] at HQ1 HQ2
  have r1 := hL1.room
  have r2 := hL2.room
  have m1 := hL1.max
  have m2 := hL2.max
  unfold maxLen at m1 m2
  have HL1 := Lib.hid hL1
  have HL2 := Lib.hid hL2
  have HLn := Lib.hid hlen
  have HC1 := Lib.hid (fun W (hx : Ext w2 W) => (fun i h => hx.cell ((hx2.cell (k1 i h))) : ∀ i (h : i < (C.map Value.string).length), W.cell? ⟨q1, o1 + i, none⟩ = some (C.map Value.string)[i]))
  have HC2 := Lib.hid (fun W (hx : Ext w2 W) => (fun i h => hx.cell (k2 i h) : ∀ i (h : i < (D.map Value.string).length), W.cell? ⟨q2, o2 + i, none⟩ = some (D.map Value.string)[i]))
  have HTC := Lib.hid hl1.symm
  have HTD := Lib.hid hl2.symm
  have hff : (F.toList == F.toList) = true := beq_self_eq_true _
  clear hF1 hF2 hlA hFF hF hsz1 hsz2 hlen hl1 hl2 hL1 hL2 k1 k2 ho1 ho2 hc1 hc2 hx1 hx2 hwr hs ho hs3 ho3 hsp hop
  go_wp2_with fail
  refine (HP1.out _ (Ext.refl _)).mono ?_
  rintro e w3 ⟨v3, rfl, ho3, hx3⟩
  obtain ⟨A3, c3, rfl, hl3⟩ := PLst.of_own ho3
  rw [HLn.out] at hl3 ⊢
  have HL3 := Lib.hid hl3
  clear ho3 hl3
  go_wp2_with (at_builtin; refine wpList_append_strs rfl (.tmp 42) (.tmp 43) rfl w3.heap.size _ 0 [] rfl (own_empty w3 w3.heap.size _ 1 (Nat.le_refl _)) q2 o2 U c2 D rfl HTD.out ?a2 ?a3 ?a4 ?_)
  case a2 => exact HC2.out _ (hx3.alloc _)
  case a3 => omega
  case a4 => simp
  intro va w4 hoa hga
  have hxa : Ext w3 w4 := ((Ext.refl w3).alloc _).grown hga (fun k hk => by simp [Value.ownBlock] at hk; omega)
  have HOa := Lib.hid hoa
  clear hoa hga
  go_wp2_with (at_builtin; refine wpList_append_strs rfl (.tmp 44) (.tmp 45) rfl w3.heap.size va _ _ rfl HOa.out q1 o1 T c1 C rfl HTC.out ?b2 ?b3 ?b4 ?_)
  case b2 => exact HC1.out _ (hx3.trans hxa)
  case b3 => omega
  case b4 => exact hxa.size
  intro vb w5 hob hgb
  have hxb : Ext w3 w5 := hxa.grown hgb (fun k hk => (HOa.out.lt k hk).1)
  first | rw [← List.map_append] at hob | rw [List.nil_append, ← List.map_append] at hob
  obtain ⟨Ab, cb, rfl, hlb⟩ := Lst.of_own hob
  have hxw5 := hx3.trans hxb
  have hx35 := hxb
  clear hob hgb hxb hxa HOa
  go_wp2_with fail
  refine (HP2.out _ _ _ _ hxw5 hlb).mono ?_
  rintro e w6 ⟨v6, rfl, ho6, hx6⟩
  obtain ⟨A6, c6, rfl, hl6⟩ := PLst.of_own ho6
  rw [HLn.out] at hl6 ⊢
  have hx26 := hxw5.trans hx6
  have HL6 := Lib.hid hl6
  have HL3 := Lib.hid (HL3.out.ext ((show Ext w3 w5 from hx35).trans hx6))
  clear ho6 hl6 hlb hx35 hxw5 hx3 hx6
  go_wp2_with (at_builtin; refine wpList_append_strs rfl (.tmp 50) (.tmp 51) rfl w6.heap.size _ 0 [] rfl (own_empty w6 w6.heap.size _ 1 (Nat.le_refl _)) q2 o2 U c2 D rfl HTD.out ?c2 ?c3 ?c4 ?_)
  case c2 => exact HC2.out _ (hx26.alloc _)
  case c3 => omega
  case c4 => simp
  intro vac w7 hoc hgc
  have hxc : Ext w6 w7 := ((Ext.refl w6).alloc _).grown hgc (fun k hk => by simp [Value.ownBlock] at hk; omega)
  have HOc := Lib.hid hoc
  clear hoc hgc
  go_wp2_with (at_builtin; refine wpList_append_strs rfl (.tmp 52) (.tmp 53) rfl w6.heap.size vac _ _ rfl HOc.out q1 o1 T c1 C rfl HTC.out ?d2 ?d3 ?d4 ?_)
  case d2 => exact HC1.out _ (hx26.trans hxc)
  case d3 => omega
  case d4 => exact hxc.size
  intro vb w8 hod hgd
  have hxd : Ext w6 w8 := hxc.grown hgd (fun k hk => (HOc.out.lt k hk).1)
  first | rw [← List.map_append] at hod | rw [List.nil_append, ← List.map_append] at hod
  obtain ⟨Ad, cd, rfl, hld⟩ := Lst.of_own hod
  have hxw8 := hx26.trans hxd
  have hnd := hxd
  clear hod hgd hxd hxc HOc
  go_wp2_with fail
  refine (HQ2.out _ _ _ _ hxw8 hld).mono ?_
  rintro e w9 ⟨v9, rfl, ho9, hx9⟩
  obtain ⟨A9, c9, rfl, hl9⟩ := Lst.of_own ho9
  have hx29 := hxw8.trans hx9
  have HL6 := Lib.hid (HL6.out.ext (hnd.trans hx9))
  have HL3 := Lib.hid (HL3.out.ext (hnd.trans hx9))
  clear ho9 hl9 hld hxw8 hnd hx9 hx26
  go_wp2_with fail
  refine (HQ1.out _ hx29).mono ?_
  rintro e w10 ⟨v10, rfl, ho10, hx10⟩
  obtain ⟨A10, c10, rfl, hl10⟩ := Lst.of_own ho10
  have HL6 := Lib.hid (HL6.out.ext hx10)
  have HL3 := Lib.hid (HL3.out.ext hx10)
  have hx210 := hx29.trans hx10
  have HS := Lib.hid (psame_any A3 A6 T c3 c6 L w10 HL3.out HL6.out)
  clear ho10 hl10 hx10 hx29
  go_wp2_with fail
  refine HS.out.mono ?_
  rintro e w11 ⟨rfl, hx11⟩
  have hx211 := hx210.trans hx11
  go_wp2_with fail
  refine (HW.out _ (hE.ext (hx12.trans hx211))).mono ?_
  rintro e w12 ⟨rfl, hx12'⟩
  go_wp2_with fail
  go_ret
  exact ⟨rfl, (hx12.trans hx211).trans hx12'⟩
end Go.Proofs.YtlkiaeelnbjchaaGreatDoor
