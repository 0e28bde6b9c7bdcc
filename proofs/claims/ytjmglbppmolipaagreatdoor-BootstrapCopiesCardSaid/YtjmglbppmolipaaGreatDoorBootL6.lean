/- The law BootstrapCopies returns true. (Layer 28; the steps of the program printed by bin/gencopy.py) -/
import Derived.Test.YtjmglbppmolipaaGreatDoorBootL5
namespace Go.Proofs.YtjmglbppmolipaaGreatDoor
open Go.RowKit
open Go.Lib hiding intOf
set_option linter.unusedVariables false
set_option linter.unusedSimpArgs false

/-- the copying program -/
def copyT : List UInt8 := [44, 57, 48, 48, 48, 33, 57, 48, 48, 48, 64, 52, 50, 57, 52, 57, 54, 55, 50, 57, 53, 60, 49, 48, 48, 52, 50, 63, 57, 48, 48, 48, 64, 46, 48, 32, 49, 48, 48, 48, 48, 63, 36]
/-- the memory holds it -/
def HasP (m : Nat → Nat) : Prop := ∀ (i : Nat) (c : UInt8), copyT[i]? = some c → m (10000 + i) = c.toNat
theorem HasP.at {m : Nat → Nat} (h : HasP m) (i c : Nat) (hc : copyT[i]? = some (UInt8.ofNat c)) (hc2 : c < 256) : m (10000 + i) = c := by
  rw [h i _ hc]
  simp [Nat.mod_eq_of_lt hc2]
theorem HasP.set {m : Nat → Nat} (h : HasP m) (x : Nat) : HasP (setM m 9000 x) := fun i c hc => by
  unfold setM
  rw [if_neg (by omega)]
  exact h i c hc
theorem run_one (k n : Nat) (M : MS) (p c : Nat) (M' : MS) (hp : M.pc = p) (h1 : p < 262144) (h2 : M.mem p = c) (h3 : c ≠ 36) (h4 : (stepS { M with pc := M.pc + 1 } c).map (fun m => { m with digit := isDig c }) = some M') : runS (k + 1) n M = runS k (n + 1) M' := by
  subst hp
  conv => lhs; unfold runS
  rw [if_neg (by omega), if_neg (by rw [h2]; exact h3), h2]
  cases hs : stepS { M with pc := M.pc + 1 } c with
  | none => rw [hs] at h4; cases h4
  | some m =>
    rw [hs] at h4
    have h4 := Option.some.inj h4
    simp only
    rw [← h4]
theorem run_lt (k n : Nat) (m : Nat → Nat) (pc : Nat) (inp : List Nat) (out : List UInt8) (x y v : Nat) (h : (if x < y then 1 else 0) = v) (h1 : pc < 262144) (h2 : m pc = 60) : runS (k + 1) n ⟨m, pc, [x, y], [], inp, out, true, none⟩ = runS k (n + 1) ⟨m, pc + 1, [v], [], inp, out, false, none⟩ :=
  run_one k n _ pc 60 _ rfl h1 h2 (by decide) (by subst h; rfl)
theorem run_d1 (k n : Nat) (m : Nat → Nat) (pc c v v' : Nat) (inp : List Nat) (out : List UInt8) (hc : isDig c = true) (h1 : pc < 262144) (h2 : m pc = c) (h3 : c ≠ 36) (h : (v * 10 + (c - 48)) % 4294967296 = v') : runS (k + 1) n ⟨m, pc, [v], [], inp, out, true, none⟩ = runS k (n + 1) ⟨m, pc + 1, [v'], [], inp, out, true, none⟩ :=
  run_one k n _ pc c _ rfl h1 h2 h3 (by unfold stepS; rw [if_pos hc, hc, ← h]; rfl)
theorem run_d2 (k n : Nat) (m : Nat → Nat) (pc c a v v' : Nat) (inp : List Nat) (out : List UInt8) (hc : isDig c = true) (h1 : pc < 262144) (h2 : m pc = c) (h3 : c ≠ 36) (h : (v * 10 + (c - 48)) % 4294967296 = v') : runS (k + 1) n ⟨m, pc, [a, v], [], inp, out, true, none⟩ = runS k (n + 1) ⟨m, pc + 1, [a, v'], [], inp, out, true, none⟩ :=
  run_one k n _ pc c _ rfl h1 h2 h3 (by unfold stepS; rw [if_pos hc, hc, ← h]; rfl)
theorem step_nil (m : Nat → Nat) (pc : Nat) (out : List UInt8) (x : Nat) (h : x = 4294967295) : (stepS ⟨m, pc, [], [], [], out, false, none⟩ 44).map (fun m => { m with digit := isDig 44 }) = some ⟨m, pc, [x], [], [], out, false, none⟩ := by
  rw [h]
  rfl
set_option maxRecDepth 10000 in
theorem copy_on (m : Nat → Nat) (out : List UInt8) (inp : List Nat) (x : Nat) (hlt : (if x < 4294967295 then 1 else 0) = 1) (hP : HasP m) (k n : Nat) :
    runS (k + 42) n ⟨m, 10000, [], [], (x :: inp), out, false, none⟩ = runS k (n + 42) ⟨(setM m 9000 x), 10000, [], [], inp, (out ++ [UInt8.ofNat x]), false, none⟩ := by
  have hQ := hP.set x
  have hm9 : setM m 9000 x 9000 = x := rfl
  refine (run_one (k + 41) (n + 0) _ 10000 44 ⟨m, 10001, [x], [], inp, out, false, none⟩ rfl (by decide) (hP.at 0 44 rfl (by decide)) (by decide) rfl).trans ?_
  refine (run_one (k + 40) (n + 1) _ 10001 57 ⟨m, 10002, [x, 9], [], inp, out, true, none⟩ rfl (by decide) (hP.at 1 57 rfl (by decide)) (by decide) rfl).trans ?_
  refine (run_d2 (k + 39) (n + 2) _ 10002 48 x 9 90 inp out (by decide) (by decide) (hP.at 2 48 rfl (by decide)) (by decide) (by decide)).trans ?_
  refine (run_d2 (k + 38) (n + 3) _ 10003 48 x 90 900 inp out (by decide) (by decide) (hP.at 3 48 rfl (by decide)) (by decide) (by decide)).trans ?_
  refine (run_d2 (k + 37) (n + 4) _ 10004 48 x 900 9000 inp out (by decide) (by decide) (hP.at 4 48 rfl (by decide)) (by decide) (by decide)).trans ?_
  refine (run_one (k + 36) (n + 5) _ 10005 33 ⟨(setM m 9000 x), 10006, [], [], inp, out, false, none⟩ rfl (by decide) (hP.at 5 33 rfl (by decide)) (by decide) rfl).trans ?_
  refine (run_one (k + 35) (n + 6) _ 10006 57 ⟨(setM m 9000 x), 10007, [9], [], inp, out, true, none⟩ rfl (by decide) (hQ.at 6 57 rfl (by decide)) (by decide) rfl).trans ?_
  refine (run_d1 (k + 34) (n + 7) _ 10007 48 9 90 inp out (by decide) (by decide) (hQ.at 7 48 rfl (by decide)) (by decide) (by decide)).trans ?_
  refine (run_d1 (k + 33) (n + 8) _ 10008 48 90 900 inp out (by decide) (by decide) (hQ.at 8 48 rfl (by decide)) (by decide) (by decide)).trans ?_
  refine (run_d1 (k + 32) (n + 9) _ 10009 48 900 9000 inp out (by decide) (by decide) (hQ.at 9 48 rfl (by decide)) (by decide) (by decide)).trans ?_
  refine (run_one (k + 31) (n + 10) _ 10010 64 ⟨(setM m 9000 x), 10011, [x], [], inp, out, false, none⟩ rfl (by decide) (hQ.at 10 64 rfl (by decide)) (by decide) rfl).trans ?_
  refine (run_one (k + 30) (n + 11) _ 10011 52 ⟨(setM m 9000 x), 10012, [x, 4], [], inp, out, true, none⟩ rfl (by decide) (hQ.at 11 52 rfl (by decide)) (by decide) rfl).trans ?_
  refine (run_d2 (k + 29) (n + 12) _ 10012 50 x 4 42 inp out (by decide) (by decide) (hQ.at 12 50 rfl (by decide)) (by decide) (by decide)).trans ?_
  refine (run_d2 (k + 28) (n + 13) _ 10013 57 x 42 429 inp out (by decide) (by decide) (hQ.at 13 57 rfl (by decide)) (by decide) (by decide)).trans ?_
  refine (run_d2 (k + 27) (n + 14) _ 10014 52 x 429 4294 inp out (by decide) (by decide) (hQ.at 14 52 rfl (by decide)) (by decide) (by decide)).trans ?_
  refine (run_d2 (k + 26) (n + 15) _ 10015 57 x 4294 42949 inp out (by decide) (by decide) (hQ.at 15 57 rfl (by decide)) (by decide) (by decide)).trans ?_
  refine (run_d2 (k + 25) (n + 16) _ 10016 54 x 42949 429496 inp out (by decide) (by decide) (hQ.at 16 54 rfl (by decide)) (by decide) (by decide)).trans ?_
  refine (run_d2 (k + 24) (n + 17) _ 10017 55 x 429496 4294967 inp out (by decide) (by decide) (hQ.at 17 55 rfl (by decide)) (by decide) (by decide)).trans ?_
  refine (run_d2 (k + 23) (n + 18) _ 10018 50 x 4294967 42949672 inp out (by decide) (by decide) (hQ.at 18 50 rfl (by decide)) (by decide) (by decide)).trans ?_
  refine (run_d2 (k + 22) (n + 19) _ 10019 57 x 42949672 429496729 inp out (by decide) (by decide) (hQ.at 19 57 rfl (by decide)) (by decide) (by decide)).trans ?_
  refine (run_d2 (k + 21) (n + 20) _ 10020 53 x 429496729 4294967295 inp out (by decide) (by decide) (hQ.at 20 53 rfl (by decide)) (by decide) (by decide)).trans ?_
  refine (run_lt (k + 20) (n + 21) _ 10021 inp out x 4294967295 _ hlt (by decide) (hQ.at 21 60 rfl (by decide))).trans ?_
  refine (run_one (k + 19) (n + 22) _ 10022 49 ⟨(setM m 9000 x), 10023, [1, 1], [], inp, out, true, none⟩ rfl (by decide) (hQ.at 22 49 rfl (by decide)) (by decide) rfl).trans ?_
  refine (run_d2 (k + 18) (n + 23) _ 10023 48 1 1 10 inp out (by decide) (by decide) (hQ.at 23 48 rfl (by decide)) (by decide) (by decide)).trans ?_
  refine (run_d2 (k + 17) (n + 24) _ 10024 48 1 10 100 inp out (by decide) (by decide) (hQ.at 24 48 rfl (by decide)) (by decide) (by decide)).trans ?_
  refine (run_d2 (k + 16) (n + 25) _ 10025 52 1 100 1004 inp out (by decide) (by decide) (hQ.at 25 52 rfl (by decide)) (by decide) (by decide)).trans ?_
  refine (run_d2 (k + 15) (n + 26) _ 10026 50 1 1004 10042 inp out (by decide) (by decide) (hQ.at 26 50 rfl (by decide)) (by decide) (by decide)).trans ?_
  refine (run_one (k + 14) (n + 27) _ 10027 63 ⟨(setM m 9000 x), 10028, [], [], inp, out, false, none⟩ rfl (by decide) (hQ.at 27 63 rfl (by decide)) (by decide) rfl).trans ?_
  refine (run_one (k + 13) (n + 28) _ 10028 57 ⟨(setM m 9000 x), 10029, [9], [], inp, out, true, none⟩ rfl (by decide) (hQ.at 28 57 rfl (by decide)) (by decide) rfl).trans ?_
  refine (run_d1 (k + 12) (n + 29) _ 10029 48 9 90 inp out (by decide) (by decide) (hQ.at 29 48 rfl (by decide)) (by decide) (by decide)).trans ?_
  refine (run_d1 (k + 11) (n + 30) _ 10030 48 90 900 inp out (by decide) (by decide) (hQ.at 30 48 rfl (by decide)) (by decide) (by decide)).trans ?_
  refine (run_d1 (k + 10) (n + 31) _ 10031 48 900 9000 inp out (by decide) (by decide) (hQ.at 31 48 rfl (by decide)) (by decide) (by decide)).trans ?_
  refine (run_one (k + 9) (n + 32) _ 10032 64 ⟨(setM m 9000 x), 10033, [x], [], inp, out, false, none⟩ rfl (by decide) (hQ.at 32 64 rfl (by decide)) (by decide) rfl).trans ?_
  refine (run_one (k + 8) (n + 33) _ 10033 46 ⟨(setM m 9000 x), 10034, [], [], inp, (out ++ [UInt8.ofNat x]), false, none⟩ rfl (by decide) (hQ.at 33 46 rfl (by decide)) (by decide) rfl).trans ?_
  refine (run_one (k + 7) (n + 34) _ 10034 48 ⟨(setM m 9000 x), 10035, [0], [], inp, (out ++ [UInt8.ofNat x]), true, none⟩ rfl (by decide) (hQ.at 34 48 rfl (by decide)) (by decide) rfl).trans ?_
  refine (run_one (k + 6) (n + 35) _ 10035 32 ⟨(setM m 9000 x), 10036, [0], [], inp, (out ++ [UInt8.ofNat x]), false, none⟩ rfl (by decide) (hQ.at 35 32 rfl (by decide)) (by decide) rfl).trans ?_
  refine (run_one (k + 5) (n + 36) _ 10036 49 ⟨(setM m 9000 x), 10037, [0, 1], [], inp, (out ++ [UInt8.ofNat x]), true, none⟩ rfl (by decide) (hQ.at 36 49 rfl (by decide)) (by decide) rfl).trans ?_
  refine (run_d2 (k + 4) (n + 37) _ 10037 48 0 1 10 inp (out ++ [UInt8.ofNat x]) (by decide) (by decide) (hQ.at 37 48 rfl (by decide)) (by decide) (by decide)).trans ?_
  refine (run_d2 (k + 3) (n + 38) _ 10038 48 0 10 100 inp (out ++ [UInt8.ofNat x]) (by decide) (by decide) (hQ.at 38 48 rfl (by decide)) (by decide) (by decide)).trans ?_
  refine (run_d2 (k + 2) (n + 39) _ 10039 48 0 100 1000 inp (out ++ [UInt8.ofNat x]) (by decide) (by decide) (hQ.at 39 48 rfl (by decide)) (by decide) (by decide)).trans ?_
  refine (run_d2 (k + 1) (n + 40) _ 10040 48 0 1000 10000 inp (out ++ [UInt8.ofNat x]) (by decide) (by decide) (hQ.at 40 48 rfl (by decide)) (by decide) (by decide)).trans ?_
  refine (run_one (k + 0) (n + 41) _ 10041 63 ⟨(setM m 9000 x), 10000, [], [], inp, (out ++ [UInt8.ofNat x]), false, none⟩ rfl (by decide) (hQ.at 41 63 rfl (by decide)) (by decide) rfl).trans ?_
  rfl

set_option maxRecDepth 10000 in
theorem copy_end (m : Nat → Nat) (out : List UInt8) (inp : List Nat) (x : Nat) (hlt : (if x < 4294967295 then 1 else 0) = 0) (hP : HasP m) (k n : Nat) :
    runS (k + 28) n ⟨m, 10000, [], [], (x :: inp), out, false, none⟩ = runS k (n + 28) ⟨(setM m 9000 x), 10042, [], [], inp, out, false, none⟩ := by
  have hQ := hP.set x
  have hm9 : setM m 9000 x 9000 = x := rfl
  refine (run_one (k + 27) (n + 0) _ 10000 44 ⟨m, 10001, [x], [], inp, out, false, none⟩ rfl (by decide) (hP.at 0 44 rfl (by decide)) (by decide) rfl).trans ?_
  refine (run_one (k + 26) (n + 1) _ 10001 57 ⟨m, 10002, [x, 9], [], inp, out, true, none⟩ rfl (by decide) (hP.at 1 57 rfl (by decide)) (by decide) rfl).trans ?_
  refine (run_d2 (k + 25) (n + 2) _ 10002 48 x 9 90 inp out (by decide) (by decide) (hP.at 2 48 rfl (by decide)) (by decide) (by decide)).trans ?_
  refine (run_d2 (k + 24) (n + 3) _ 10003 48 x 90 900 inp out (by decide) (by decide) (hP.at 3 48 rfl (by decide)) (by decide) (by decide)).trans ?_
  refine (run_d2 (k + 23) (n + 4) _ 10004 48 x 900 9000 inp out (by decide) (by decide) (hP.at 4 48 rfl (by decide)) (by decide) (by decide)).trans ?_
  refine (run_one (k + 22) (n + 5) _ 10005 33 ⟨(setM m 9000 x), 10006, [], [], inp, out, false, none⟩ rfl (by decide) (hP.at 5 33 rfl (by decide)) (by decide) rfl).trans ?_
  refine (run_one (k + 21) (n + 6) _ 10006 57 ⟨(setM m 9000 x), 10007, [9], [], inp, out, true, none⟩ rfl (by decide) (hQ.at 6 57 rfl (by decide)) (by decide) rfl).trans ?_
  refine (run_d1 (k + 20) (n + 7) _ 10007 48 9 90 inp out (by decide) (by decide) (hQ.at 7 48 rfl (by decide)) (by decide) (by decide)).trans ?_
  refine (run_d1 (k + 19) (n + 8) _ 10008 48 90 900 inp out (by decide) (by decide) (hQ.at 8 48 rfl (by decide)) (by decide) (by decide)).trans ?_
  refine (run_d1 (k + 18) (n + 9) _ 10009 48 900 9000 inp out (by decide) (by decide) (hQ.at 9 48 rfl (by decide)) (by decide) (by decide)).trans ?_
  refine (run_one (k + 17) (n + 10) _ 10010 64 ⟨(setM m 9000 x), 10011, [x], [], inp, out, false, none⟩ rfl (by decide) (hQ.at 10 64 rfl (by decide)) (by decide) rfl).trans ?_
  refine (run_one (k + 16) (n + 11) _ 10011 52 ⟨(setM m 9000 x), 10012, [x, 4], [], inp, out, true, none⟩ rfl (by decide) (hQ.at 11 52 rfl (by decide)) (by decide) rfl).trans ?_
  refine (run_d2 (k + 15) (n + 12) _ 10012 50 x 4 42 inp out (by decide) (by decide) (hQ.at 12 50 rfl (by decide)) (by decide) (by decide)).trans ?_
  refine (run_d2 (k + 14) (n + 13) _ 10013 57 x 42 429 inp out (by decide) (by decide) (hQ.at 13 57 rfl (by decide)) (by decide) (by decide)).trans ?_
  refine (run_d2 (k + 13) (n + 14) _ 10014 52 x 429 4294 inp out (by decide) (by decide) (hQ.at 14 52 rfl (by decide)) (by decide) (by decide)).trans ?_
  refine (run_d2 (k + 12) (n + 15) _ 10015 57 x 4294 42949 inp out (by decide) (by decide) (hQ.at 15 57 rfl (by decide)) (by decide) (by decide)).trans ?_
  refine (run_d2 (k + 11) (n + 16) _ 10016 54 x 42949 429496 inp out (by decide) (by decide) (hQ.at 16 54 rfl (by decide)) (by decide) (by decide)).trans ?_
  refine (run_d2 (k + 10) (n + 17) _ 10017 55 x 429496 4294967 inp out (by decide) (by decide) (hQ.at 17 55 rfl (by decide)) (by decide) (by decide)).trans ?_
  refine (run_d2 (k + 9) (n + 18) _ 10018 50 x 4294967 42949672 inp out (by decide) (by decide) (hQ.at 18 50 rfl (by decide)) (by decide) (by decide)).trans ?_
  refine (run_d2 (k + 8) (n + 19) _ 10019 57 x 42949672 429496729 inp out (by decide) (by decide) (hQ.at 19 57 rfl (by decide)) (by decide) (by decide)).trans ?_
  refine (run_d2 (k + 7) (n + 20) _ 10020 53 x 429496729 4294967295 inp out (by decide) (by decide) (hQ.at 20 53 rfl (by decide)) (by decide) (by decide)).trans ?_
  refine (run_lt (k + 6) (n + 21) _ 10021 inp out x 4294967295 _ hlt (by decide) (hQ.at 21 60 rfl (by decide))).trans ?_
  refine (run_one (k + 5) (n + 22) _ 10022 49 ⟨(setM m 9000 x), 10023, [0, 1], [], inp, out, true, none⟩ rfl (by decide) (hQ.at 22 49 rfl (by decide)) (by decide) rfl).trans ?_
  refine (run_d2 (k + 4) (n + 23) _ 10023 48 0 1 10 inp out (by decide) (by decide) (hQ.at 23 48 rfl (by decide)) (by decide) (by decide)).trans ?_
  refine (run_d2 (k + 3) (n + 24) _ 10024 48 0 10 100 inp out (by decide) (by decide) (hQ.at 24 48 rfl (by decide)) (by decide) (by decide)).trans ?_
  refine (run_d2 (k + 2) (n + 25) _ 10025 52 0 100 1004 inp out (by decide) (by decide) (hQ.at 25 52 rfl (by decide)) (by decide) (by decide)).trans ?_
  refine (run_d2 (k + 1) (n + 26) _ 10026 50 0 1004 10042 inp out (by decide) (by decide) (hQ.at 26 50 rfl (by decide)) (by decide) (by decide)).trans ?_
  refine (run_one (k + 0) (n + 27) _ 10027 63 ⟨(setM m 9000 x), 10042, [], [], inp, out, false, none⟩ rfl (by decide) (hQ.at 27 63 rfl (by decide)) (by decide) rfl).trans ?_
  rfl

set_option maxRecDepth 10000 in
theorem copy_nil (m : Nat → Nat) (out : List UInt8) (inp : List Nat) (x : Nat) (hx : x = 4294967295) (hlt : (if x < 4294967295 then 1 else 0) = 0) (hP : HasP m) (k n : Nat) :
    runS (k + 28) n ⟨m, 10000, [], [], [], out, false, none⟩ = runS k (n + 28) ⟨(setM m 9000 x), 10042, [], [], [], out, false, none⟩ := by
  have hQ := hP.set x
  have hm9 : setM m 9000 x 9000 = x := rfl
  refine (run_one (k + 27) (n + 0) _ 10000 44 ⟨m, 10001, [x], [], [], out, false, none⟩ rfl (by decide) (hP.at 0 44 rfl (by decide)) (by decide) (step_nil _ _ _ x hx)).trans ?_
  refine (run_one (k + 26) (n + 1) _ 10001 57 ⟨m, 10002, [x, 9], [], [], out, true, none⟩ rfl (by decide) (hP.at 1 57 rfl (by decide)) (by decide) rfl).trans ?_
  refine (run_d2 (k + 25) (n + 2) _ 10002 48 x 9 90 [] out (by decide) (by decide) (hP.at 2 48 rfl (by decide)) (by decide) (by decide)).trans ?_
  refine (run_d2 (k + 24) (n + 3) _ 10003 48 x 90 900 [] out (by decide) (by decide) (hP.at 3 48 rfl (by decide)) (by decide) (by decide)).trans ?_
  refine (run_d2 (k + 23) (n + 4) _ 10004 48 x 900 9000 [] out (by decide) (by decide) (hP.at 4 48 rfl (by decide)) (by decide) (by decide)).trans ?_
  refine (run_one (k + 22) (n + 5) _ 10005 33 ⟨(setM m 9000 x), 10006, [], [], [], out, false, none⟩ rfl (by decide) (hP.at 5 33 rfl (by decide)) (by decide) rfl).trans ?_
  refine (run_one (k + 21) (n + 6) _ 10006 57 ⟨(setM m 9000 x), 10007, [9], [], [], out, true, none⟩ rfl (by decide) (hQ.at 6 57 rfl (by decide)) (by decide) rfl).trans ?_
  refine (run_d1 (k + 20) (n + 7) _ 10007 48 9 90 [] out (by decide) (by decide) (hQ.at 7 48 rfl (by decide)) (by decide) (by decide)).trans ?_
  refine (run_d1 (k + 19) (n + 8) _ 10008 48 90 900 [] out (by decide) (by decide) (hQ.at 8 48 rfl (by decide)) (by decide) (by decide)).trans ?_
  refine (run_d1 (k + 18) (n + 9) _ 10009 48 900 9000 [] out (by decide) (by decide) (hQ.at 9 48 rfl (by decide)) (by decide) (by decide)).trans ?_
  refine (run_one (k + 17) (n + 10) _ 10010 64 ⟨(setM m 9000 x), 10011, [x], [], [], out, false, none⟩ rfl (by decide) (hQ.at 10 64 rfl (by decide)) (by decide) rfl).trans ?_
  refine (run_one (k + 16) (n + 11) _ 10011 52 ⟨(setM m 9000 x), 10012, [x, 4], [], [], out, true, none⟩ rfl (by decide) (hQ.at 11 52 rfl (by decide)) (by decide) rfl).trans ?_
  refine (run_d2 (k + 15) (n + 12) _ 10012 50 x 4 42 [] out (by decide) (by decide) (hQ.at 12 50 rfl (by decide)) (by decide) (by decide)).trans ?_
  refine (run_d2 (k + 14) (n + 13) _ 10013 57 x 42 429 [] out (by decide) (by decide) (hQ.at 13 57 rfl (by decide)) (by decide) (by decide)).trans ?_
  refine (run_d2 (k + 13) (n + 14) _ 10014 52 x 429 4294 [] out (by decide) (by decide) (hQ.at 14 52 rfl (by decide)) (by decide) (by decide)).trans ?_
  refine (run_d2 (k + 12) (n + 15) _ 10015 57 x 4294 42949 [] out (by decide) (by decide) (hQ.at 15 57 rfl (by decide)) (by decide) (by decide)).trans ?_
  refine (run_d2 (k + 11) (n + 16) _ 10016 54 x 42949 429496 [] out (by decide) (by decide) (hQ.at 16 54 rfl (by decide)) (by decide) (by decide)).trans ?_
  refine (run_d2 (k + 10) (n + 17) _ 10017 55 x 429496 4294967 [] out (by decide) (by decide) (hQ.at 17 55 rfl (by decide)) (by decide) (by decide)).trans ?_
  refine (run_d2 (k + 9) (n + 18) _ 10018 50 x 4294967 42949672 [] out (by decide) (by decide) (hQ.at 18 50 rfl (by decide)) (by decide) (by decide)).trans ?_
  refine (run_d2 (k + 8) (n + 19) _ 10019 57 x 42949672 429496729 [] out (by decide) (by decide) (hQ.at 19 57 rfl (by decide)) (by decide) (by decide)).trans ?_
  refine (run_d2 (k + 7) (n + 20) _ 10020 53 x 429496729 4294967295 [] out (by decide) (by decide) (hQ.at 20 53 rfl (by decide)) (by decide) (by decide)).trans ?_
  refine (run_lt (k + 6) (n + 21) _ 10021 [] out x 4294967295 _ hlt (by decide) (hQ.at 21 60 rfl (by decide))).trans ?_
  refine (run_one (k + 5) (n + 22) _ 10022 49 ⟨(setM m 9000 x), 10023, [0, 1], [], [], out, true, none⟩ rfl (by decide) (hQ.at 22 49 rfl (by decide)) (by decide) rfl).trans ?_
  refine (run_d2 (k + 4) (n + 23) _ 10023 48 0 1 10 [] out (by decide) (by decide) (hQ.at 23 48 rfl (by decide)) (by decide) (by decide)).trans ?_
  refine (run_d2 (k + 3) (n + 24) _ 10024 48 0 10 100 [] out (by decide) (by decide) (hQ.at 24 48 rfl (by decide)) (by decide) (by decide)).trans ?_
  refine (run_d2 (k + 2) (n + 25) _ 10025 52 0 100 1004 [] out (by decide) (by decide) (hQ.at 25 52 rfl (by decide)) (by decide) (by decide)).trans ?_
  refine (run_d2 (k + 1) (n + 26) _ 10026 50 0 1004 10042 [] out (by decide) (by decide) (hQ.at 26 50 rfl (by decide)) (by decide) (by decide)).trans ?_
  refine (run_one (k + 0) (n + 27) _ 10027 63 ⟨(setM m 9000 x), 10042, [], [], [], out, false, none⟩ rfl (by decide) (hQ.at 27 63 rfl (by decide)) (by decide) rfl).trans ?_
  rfl

theorem run_end (k n : Nat) (m : Nat → Nat) (inp : List Nat) (out : List UInt8) (hP : HasP m) : runS (k + 1) n ⟨m, 10042, [], [], inp, out, false, none⟩ = (out, 0, n + 1) :=
  runS_stop k n _ (show 10042 < 262144 by decide) (hP.at 42 36 rfl (by decide))
/-- what the program shows -/
def shown (l : List Nat) : List UInt8 := (l.takeWhile (fun x => decide (x < 4294967295))).map UInt8.ofNat
theorem copy_all : ∀ (inp : List Nat) (m : Nat → Nat) (out : List UInt8) (k n : Nat), HasP m → (runS (k + (42 * inp.length + 29)) n ⟨m, 10000, [], [], inp, out, false, none⟩).1 = out ++ shown inp
  | [], m, out, k, n, hP => by
    have h := copy_nil m out [] 4294967295 rfl (if_neg (Nat.lt_irrefl _)) hP (k + 1) n
    rw [show k + (42 * ([] : List Nat).length + 29) = k + 1 + 28 from rfl]
    rw [h, run_end k _ _ _ _ (hP.set _)]
    exact (List.append_nil _).symm
  | x :: l, m, out, k, n, hP => by
    by_cases hx : x < 4294967295
    · have h := copy_on m out l x (if_pos hx) hP (k + (42 * l.length + 29)) n
      rw [show k + (42 * (x :: l).length + 29) = k + (42 * l.length + 29) + 42 by simp only [List.length_cons]; omega]
      rw [h, copy_all l _ _ k _ (hP.set x)]
      unfold shown
      rw [List.takeWhile_cons_of_pos (by simpa using hx), List.map_cons, List.append_assoc]
      rfl
    · have h := copy_end m out l x (if_neg hx) hP (k + 42 * (l.length + 1) + 1) n
      rw [show k + (42 * (x :: l).length + 29) = k + 42 * (l.length + 1) + 1 + 28 by simp only [List.length_cons]; omega]
      rw [h, run_end _ _ _ _ _ (hP.set x)]
      unfold shown
      rw [List.takeWhile_cons_of_neg (by simpa using hx)]
      exact (List.append_nil _).symm
def copyB : ByteArray := BA copyT
theorem copyB_size : copyB.size = 43 := rfl
theorem copyB_pr : prB copyB.data.toList = true := by
  show prB copyT = true
  decide +kernel
theorem copyB_split (arch : Nat) : splitA copyB arch = (piecesP copyB arch, 0) := by
  unfold splitA
  rw [if_neg (by rw [copyB_size]; decide), if_neg (by rw [copyB_pr]; decide)]
theorem copies_boot (l : List ByteArray) (arch : Nat) (ha : arch < 4294967296) (hl : framesL l arch = []) (hlen : (inputL l arch).length ≤ 2000) :
    (bootO (stripsL (piecesP copyB arch) ++ l) arch 1000000).1 = shown (inputL l arch) ∧ loadA (framesL (stripsL (piecesP copyB arch) ++ l) arch) = ((fullB copyB).data.toList, [], 0) := by
  have h40 : copyB.size ≤ 40000 := by rw [copyB_size]; decide
  have hld := load_strips copyB arch ha h40 copyB_pr (by rw [copyB_size]; decide)
  have hfit := pieces_fit copyB arch ha h40 copyB_pr
  have hin := strips_mark (piecesP copyB arch) (fun p hp' => (hfit p hp').1)
  generalize stripsL (piecesP copyB arch) = rows at *
  have h1 : loadA (framesL (rows ++ l) arch) = ((fullB copyB).data.toList, [], 0) := by
    rw [framesL_append, hl, List.append_nil]
    exact hld
  have i1 : inputL (rows ++ l) arch = inputL l arch := by
    unfold inputL
    rw [List.flatMap_append, List.flatMap_eq_nil_iff.2 hin, List.nil_append]
  refine ⟨?_, h1⟩
  unfold bootO
  rw [h1]
  simp only [ne_eq, not_true_eq_false, if_false]
  unfold startO runO
  rw [i1, if_neg (by decide), if_neg (by decide)]
  have hP : HasP (memT 10000 (fullB copyB).data.toList) := by
    intro i c hc
    refine memT_at 10000 _ i c ?_
    rw [full_data]
    have hi : i < copyT.length := (List.getElem?_eq_some_iff.1 hc).1
    rw [List.getElem?_append_left (show i < copyB.data.toList.length from hi)]
    exact hc
  generalize (fullB copyB).data.toList = T at *
  generalize inputL l arch = inp at *
  obtain ⟨K, hK⟩ : ∃ K, K = 1000000 - (42 * inp.length + 29) := ⟨_, rfl⟩
  have hK2 : K + (42 * inp.length + 29) = (1000000 : Int).toNat := by
    rw [show (1000000 : Int).toNat = 1000000 from rfl]; omega
  have h := copy_all inp (memT 10000 T) [] K 0 hP
  rw [hK2] at h
  exact h.trans (List.nil_append _)
theorem shown_at (l : List Nat) : ∀ i, i ≤ l.length → (∀ x ∈ l.take i, x < 4294967295) → (∀ h : i < l.length, ¬ l[i] < 4294967295) → (l.take i).map UInt8.ofNat = shown l := by
  unfold shown
  induction l with
  | nil => intro i hi _ _; simp
  | cons x l ih =>
    intro i hi h1 h2
    cases i with
    | zero =>
      have := h2 (by simp)
      rw [List.takeWhile_cons_of_neg (by simpa using this)]
      rfl
    | succ i =>
      have hx := h1 x (by simp)
      rw [List.takeWhile_cons_of_pos (by simpa using hx), List.take_succ_cons, List.map_cons, List.map_cons]
      congr 1
      exact ih i (by simpa using hi) (fun y hy => h1 y (by simp [hy])) (fun h => h2 (by simpa using h))
set_option maxRecDepth 100000 in
set_option maxHeartbeats 3200000 in
theorem lawCopies_any (A0 : Option Addr) (n0 c0 : Nat) (rows0 : List ByteArray) (arch : Nat) (w : World) (hl0 : Lst w A0 n0 c0 (rows0.map Value.string)) (hz0 : ∀ x ∈ rows0, x.size ≤ maxLen) (hA0 : A0 = none → n0 = 0 ∧ c0 = 0) (ha : arch < 4294967296) (hE : Env w) :
    Calls Tryz.prog 9 #[.slice A0 n0 c0, .int .u32 arch] w fun e w' => e = .returned (.bool true) ∧ Ext w w' := by
  have HA := Lib.hid (fun W (h : Env W) => alive_any W h)
  have HE := Lib.hid hE
  have hsm := fun W (h : Ext w W) => small_any ⟨#[]⟩ A0 n0 c0 rows0 0 W (hl0.ext h) hz0 (Nat.zero_le _)
  have hmx0 := hl0.max
  have hrm0 := hl0.room
  unfold maxLen at hmx0
  cases hb : smallB (⟨#[]⟩ : ByteArray).size rows0 0 with
  | false =>
    rw [hb] at hsm
    have HSM := Lib.hid hsm
    clear hsm hb hE
    go_enter Tryz.func9, Tryz.ntmps9
    go_wp2_with fail
    refine (HA.out _ HE.out).mono ?_
    rintro e w1 ⟨rfl, hx1⟩
    go_wp2_with fail
    refine (HSM.out _ hx1).mono ?_
    rintro e w2 ⟨rfl, rfl⟩
    go_wp2_with fail
    go_ret
    exact ⟨rfl, hx1⟩
  | true =>
  rw [hb] at hsm
  obtain ⟨-, b2, -, b4⟩ := smallB_spec hb
  have HSM := Lib.hid hsm
  have hlen0 : rows0.length = n0 := by rw [hl0.len, List.length_map]
  have hn06 : n0 ≤ 6 := by rw [← hlen0]; exact b2
  have hlf := framesL_tiny rows0 arch b4
  have hinl : (inputL rows0 arch).length ≤ 2000 := by
    have := inputL_bound rows0 arch 300 b4
    rw [hlen0] at this
    omega
  have hinlt := inputL_lt rows0 arch ha
  obtain ⟨hcb, hcl⟩ := copies_boot rows0 arch ha hlf hinl
  have HPc := Lib.hid (fun W (h : Ext w W) => (by
    have h := pieces_any A0 n0 c0 arch rows0 W (hE.ext h) ha (hl0.ext h) (fun x hx => by have := b4 x hx; omega) (by rw [hlf]; exact Nat.zero_le _)
    rw [hlf] at h
    exact h : Calls Tryz.prog 21 #[.slice A0 n0 c0, .int .u32 arch] W fun e w' => ∃ v, e = .returned v ∧ w'.ownsRow W.heap.size 57 4 v 0 [] ∧ Ext W w'))
  have hIn := fun W (h : Ext w W) => input_any A0 n0 c0 arch rows0 W (hl0.ext h) (fun x hx => by have := b4 x hx; omega) (by omega)
  have hS := fun W (h : Env W) => strips_any copyB arch W (by rw [copyB_size]; decide) ha h
  rw [copyB_split] at hS
  have hlen := stripsL_len (piecesP copyB arch)
  rw [pieces_len] at hlen
  have hzz := stripsL_sizes copyB arch ha (by rw [copyB_size]; decide) copyB_pr
  have hn1 : (stripsL (piecesP copyB arch)).length = 1 := by rw [hlen, copyB_size]; rfl
  simp only at hS
  generalize stripsL (piecesP copyB arch) = rows at *
  have hall : ∀ x ∈ rows ++ rows0, x.size ≤ 3072 := fun x hx => by
    rcases List.mem_append.1 hx with hx | hx
    · exact hzz x hx
    · have := b4 x hx; omega
  have hl1 : (rows ++ rows0).length = 1 + n0 := by rw [List.length_append, hn1, hlen0]
  have hB := fun W (h : Ext w W) B c (hl : Lst W B (1 + n0) c ((rows ++ rows0).map Value.string)) => boot_any B (1 + n0) c arch (rows ++ rows0) 1000000 W (hE.ext h) ha hl (fun x hx => by have := hall x hx; omega)
    (by have := inputL_bound _ arch 3072 hall; rw [hl1] at this; omega) (by have := framesL_bound _ arch 3072 hall; rw [hl1] at this; omega) (by rw [hcl]; show (fullB copyB).size ≤ _; rw [full_size, copyB_size]; decide)
  obtain ⟨X, hX⟩ : ∃ X, X = bootO (rows ++ rows0) arch 1000000 := ⟨_, rfl⟩
  rw [← hX] at hB hcb
  obtain ⟨x1, x2, x3⟩ := X
  obtain ⟨inp, hinp⟩ : ∃ inp, inp = inputL rows0 arch := ⟨_, rfl⟩
  rw [← hinp] at hIn hinl hinlt hcb
  simp only at hcb
  have hb11 : outV (x1, x2, x3) = .agg #[.string (BA x1), .int .i64 x2, .int .i64 x3] := rfl
  rw [hb11] at hB
  have HB := Lib.hid hB
  have HIN := Lib.hid hIn
  have HS := Lib.hid hS
  have HCB := Lib.hid hcb
  have HL0 := Lib.hid (fun W (h : Ext w W) => hl0.ext h)
  have HA0 := Lib.hid hA0
  have HLT := Lib.hid hinlt
  have HN1 := Lib.hid hn1
  clear hB hIn hS hcb hall hl1 hzz hlen hcl hlf hE hX hb11 hinp hn1 hinlt hsm hb b4 hl0 hz0 hA0 hlen0 b2
  obtain ⟨ni, hni⟩ : ∃ ni, ni = inp.length := ⟨_, rfl⟩
  have HNI := Lib.hid hni
  rw [← hni] at hinl HIN
  clear hni
  go_enter Tryz.func9, Tryz.ntmps9
  go_wp2_with fail
  refine (HA.out _ HE.out).mono ?_
  rintro e w1 ⟨rfl, hx1⟩
  go_wp2_with fail
  refine (HSM.out _ hx1).mono ?_
  rintro e w1' ⟨rfl, rfl⟩
  go_wp2_with fail
  refine (HPc.out _ hx1).mono ?_
  rintro e w3 ⟨vp, rfl, hownp, hx3⟩
  obtain ⟨Ap, cp, rfl, hcp⟩ := framesL_none_own hownp
  have hx03 := hx1.trans hx3
  unfold maxLen at hcp
  clear hownp hx3 hx1
  go_wp2_with fail
  refine (HIN.out _ hx03).mono ?_
  rintro e w4 ⟨vi, rfl, howni, hx4⟩
  obtain ⟨Ai, ci, rfl, hli⟩ := Lst.of_own howni
  have hri := hli.room
  have hmi := hli.max
  unfold maxLen at hmi
  have hx04 := hx03.trans hx4
  have HLI := Lib.hid hli
  clear howni hx4 hx03 hli
  go_wp2_with fail
  go_loopw [6, 8] (fun sv iv wr => ∃ i : Nat, iv = .int .i64 i ∧ i ≤ ni ∧ (∀ x ∈ inp.take i, x < 4294967295) ∧ sv = .string (BA ((inp.take i).map UInt8.ofNat)) ∧ Ext w4 wr) (fun _ iv _ => ni - (intOf iv).toNat)
  case atStart => exact ⟨0, rfl, Nat.zero_le _, by simp, rfl, Ext.refl _⟩
  case round =>
    obtain ⟨i, rfl, hin, hlt, rfl, hx⟩ := hrel
    obtain ⟨S, hS⟩ : ∃ S, S = BA ((inp.take i).map UInt8.ofNat) := ⟨_, rfl⟩
    rw [← hS]
    have HSS := Lib.hid hS
    have HLTI := Lib.hid hlt
    clear hS hlt
    by_cases hi : i < ni
    · obtain ⟨q, off, rfl, hq⟩ := HLI.out.at_ (by omega)
      obtain ⟨x, hxx⟩ : ∃ x, x = inp[i]'(by rw [← HNI.out]; exact hi) := ⟨_, rfl⟩
      have hcell : wr.cell? ⟨q, off + i, none⟩ = some (.int .u32 (x : Int)) := by
        have h := hx.cell (hq i (by unfold u32s; rw [List.length_map, ← HNI.out]; exact hi))
        unfold u32s at h
        rw [List.getElem_map, ← hxx] at h
        exact h
      have hx32 : x < 4294967296 := HLT.out x (by rw [hxx]; exact List.getElem_mem _)
      have HQ := Lib.hid hq
      have HXX := Lib.hid hxx
      clear hq hxx
      by_cases hend : x < 4294967295
      · have he : ((x : Int) == 4294967295) = false := by simp; omega
        have hcv : (convert 46 9 (.slice (some ⟨wr.heap.size, 0, none⟩) 1 1)).run Tryz.prog (wr.alloc (.cells #[.int .u8 ((x : Int) % 256)] 5)) = .ok (.string (BA [UInt8.ofNat x])) (wr.alloc (.cells #[.int .u8 ((x : Int) % 256)] 5)) :=
          conv_bytes (base := wr.heap.size) (n := 1) (l := [UInt8.ofNat x]) ⟨rfl, .inr ⟨wr.heap.size, 1, _, rfl, Nat.le_refl _, heap_alloc_new wr _, Nat.le_refl _, by unfold maxLen; omega, rfl, by simp [Lib.byteCells]⟩⟩ rfl
        have HSn : Hid (S ++ BA [UInt8.ofNat x] = BA ((inp.take (i + 1)).map UInt8.ofNat)) := by
          show _ = _
          rw [HSS.out, ← BA_append, List.take_succ_eq_append_getElem (by rw [← HNI.out]; exact hi), List.map_append, HXX.out]
          rfl
        have HLTn : Hid (∀ y ∈ inp.take (i + 1), y < 4294967295) := by
          intro y hy
          rw [List.take_succ_eq_append_getElem (by rw [← HNI.out]; exact hi)] at hy
          rcases List.mem_append.1 hy with hy | hy
          · exact HLTI.out y hy
          · rw [← HXX.out] at hy
            rw [List.mem_singleton.1 hy]
            exact hend
        have hxn := hx.alloc (.cells #[.int .u8 ((x : Int) % 256)] 5)
        have hSb : ¬ 9223372036854775807 < S.size + (BA [UInt8.ofNat x]).size := by
          have h1 : S.size ≤ i := by rw [HSS.out, BA_size, List.length_map, List.length_take]; omega
          have h2 : (BA [UInt8.ofNat x]).size = 1 := rfl
          omega
        go_wp2_with fail
        go_roundw
        case rel => exact ⟨i + 1, by simp, by omega, HLTn.out, by rw [HSn.out], hxn⟩
        case measure => (show ni - ((i : Int) + 1).toNat < ni - (i : Int).toNat); omega
      · have he : ((x : Int) == 4294967295) = true := by simp; omega
        have HF : Hid (S = BA x1) := by
          show _ = _
          rw [HSS.out, HCB.out]
          congr 1
          refine shown_at inp i (by rw [← HNI.out]; exact hin) HLTI.out (fun h => ?_)
          rw [← HXX.out]; exact hend
        clear HSS HLTI
        have hx05 := hx04.trans hx
        go_wp2_with fail
        refine (HS.out _ (HE.out.ext hx05)).mono ?_
        rintro e w5 ⟨v, rfl, hown, hx5⟩
        have hx06 := hx05.trans hx5
        rw [HN1.out] at hown
        have HO := Lib.hid hown
        clear hown
        go_wp2_with (at_builtin; refine wpList_append_lst (by rfl) (.tmp 55) (.tmp 56) rfl wr.heap.size v 1 _ rfl HO.out A0 n0 c0 rows0 rfl HA0.out ?k2 ?k3 ?k4 ?_)
        case k2 => exact HL0.out _ hx06
        case k3 => omega
        case k4 => exact hx5.size
        intro vb wb howb hgrb
        have hxb : Ext w wb := hx06.grown hgrb (fun k e => Nat.le_trans hx05.size (HO.out.lt k e).1)
        have HOb : Hid (wb.ownsRow wr.heap.size 9 1 vb (1 + n0) ((rows ++ rows0).map Value.string)) := by
          have h := howb
          rw [← List.map_append] at h
          exact h
        clear howb hgrb
        obtain ⟨B, cB, rfl, hlB⟩ := Lst.of_own HOb.out
        have hrB := hlB.room
        have hmB := hlB.max
        unfold maxLen at hmB
        have HBB := Lib.hid (HB.out wb hxb B cB hlB)
        clear hlB HOb
        obtain ⟨N, hN⟩ : ∃ N, N = 1 + n0 := ⟨_, rfl⟩
        rw [← hN] at hrB HBB ⊢
        clear hN
        go_wp2_with fail
        refine HBB.out.mono ?_
        rintro e w7 ⟨rfl, hx7⟩
        have hx8 := (hxb.trans hx7).alloc (.cells #[.string (BA x1), .int .i64 x2, .int .i64 x3] 28)
        rw [HF.out]
        go_wp2_with fail
        go_ret
        exact ⟨rfl, hx8⟩
    · obtain rfl : i = ni := by omega
      have HF : Hid (S = BA x1) := by
        show _ = _
        rw [HSS.out, HCB.out]
        congr 1
        refine shown_at inp i (by rw [← HNI.out]; exact hin) HLTI.out (fun h => ?_)
        rw [← HNI.out] at h
        exact absurd h hi
      clear HSS HLTI
      have hx05 := hx04.trans hx
      go_wp2_with fail
      refine (HS.out _ (HE.out.ext hx05)).mono ?_
      rintro e w5 ⟨v, rfl, hown, hx5⟩
      have hx06 := hx05.trans hx5
      rw [HN1.out] at hown
      have HO := Lib.hid hown
      clear hown
      go_wp2_with (at_builtin; refine wpList_append_lst (by rfl) (.tmp 55) (.tmp 56) rfl wr.heap.size v 1 _ rfl HO.out A0 n0 c0 rows0 rfl HA0.out ?k2 ?k3 ?k4 ?_)
      case k2 => exact HL0.out _ hx06
      case k3 => omega
      case k4 => exact hx5.size
      intro vb wb howb hgrb
      have hxb : Ext w wb := hx06.grown hgrb (fun k e => Nat.le_trans hx05.size (HO.out.lt k e).1)
      have HOb : Hid (wb.ownsRow wr.heap.size 9 1 vb (1 + n0) ((rows ++ rows0).map Value.string)) := by
        have h := howb
        rw [← List.map_append] at h
        exact h
      clear howb hgrb
      obtain ⟨B, cB, rfl, hlB⟩ := Lst.of_own HOb.out
      have hrB := hlB.room
      have hmB := hlB.max
      unfold maxLen at hmB
      have HBB := Lib.hid (HB.out wb hxb B cB hlB)
      clear hlB HOb
      obtain ⟨N, hN⟩ : ∃ N, N = 1 + n0 := ⟨_, rfl⟩
      rw [← hN] at hrB HBB ⊢
      clear hN
      go_wp2_with fail
      refine HBB.out.mono ?_
      rintro e w7 ⟨rfl, hx7⟩
      have hx8 := (hxb.trans hx7).alloc (.cells #[.string (BA x1), .int .i64 x2, .int .i64 x3] 28)
      rw [HF.out]
      go_wp2_with fail
      go_ret
      exact ⟨rfl, hx8⟩
end Go.Proofs.YtjmglbppmolipaaGreatDoor
