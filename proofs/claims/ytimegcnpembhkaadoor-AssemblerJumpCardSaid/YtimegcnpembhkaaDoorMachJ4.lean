/- The machine runs: run and Run as one contract each. (Layer 17) -/
import Derived.Test.YtimegcnpembhkaaDoorMachJ1
import Derived.Defers
import Derived.Recover
import Derived.Test.YtimegcnpembhkaaDoorMachJ3
import Derived.Laws.MakeOwn
import Derived.Laws.BytesArg
import Derived.Laws.IdiomStrings
import Derived.StillTailTactics
import Derived.BigRegion
namespace Go.Proofs.YtimegcnpembhkaaDoor
open Go.RowKit
open Go.Lib hiding intOf
set_option linter.unusedVariables false

theorem tmps14 (p : Addr) (v1 v2 : Value) : (#[Value.pointer (some p)] ++ (((Array.replicate 13 undef).setIfInBounds 3 v1).setIfInBounds 0 v2)) = #[.pointer (some p), v2, undef, undef, v1, undef, undef, undef, undef, undef, undef, undef, undef, undef] := rfl
theorem trap_yes (v : Value) (w : World) : (Instr.typeAssert (.iface 114 v) 20 114 true).run Tryd.prog w = .ok (.tuple #[v, .bool true]) w := by kernel_rfl
theorem trap_nil (w : World) : (Instr.typeAssert .nilIface 20 114 true).run Tryd.prog w = .ok (.tuple #[.agg #[], .bool false]) w := by kernel_rfl
theorem nil_neq (w : World) : (binOp .neq 20 .nilIface .nilIface).run Tryd.prog w = .ok (.bool false) w := by kernel_rfl
set_option maxRecDepth 100000 in
set_option maxHeartbeats 1600000 in
/-- after a trap the result is ErrTrap -/
theorem catch_trap (p : Addr) (x : Int) (older : List PanicEntry) (w : World) (hc : w.cell? p = some (.int .i64 x)) (hz : w.frozen? p = false) (hlt : p.block < w.heap.size) :
    CallsD Tryd.prog 82 #[.pointer (some p)] (.panicking ({ v := trapV, recovered := false } :: older)) w fun e u' w' =>
      e = .returned (.tuple #[]) ∧ u' = .panicking ({ v := trapV, recovered := true } :: older) ∧ w' = (w.alloc (.cells #[] 114)).setCell p (.int .i64 12) := by
  refine callsD_of_wpS Tryd.func82 rfl fun c₀ cs hu => ?_
  unfold trapV at hu ⊢
  apply wpS_seq
  apply wpS_region
  simp [wpOpsS, go_sem, recoverD, hu, Tryd.ntmps82, Exit.thenS]
  rw [tmps14]
  have hy := trap_yes (.agg #[])
  have hz2 : (w.alloc (.cells #[] 114)).frozen? p = false := by rw [frozen?_alloc_cells]; exact hz
  refine wpS_of_wp ?_
  go_wp2
  exact ⟨rfl, _, rfl, .tuple #[], results_none rfl _ _ _, rfl, rfl, rfl⟩
set_option maxRecDepth 100000 in
set_option maxHeartbeats 1600000 in
/-- where nothing was raised the result stays -/
theorem catch_none (p : Addr) (w : World) (hlt : p.block < w.heap.size) :
    CallsD Tryd.prog 82 #[.pointer (some p)] .returning w fun e u' w' =>
      e = .returned (.tuple #[]) ∧ u' = .returning ∧ w' = w.alloc (.cells #[] 114) := by
  refine callsD_of_wpS Tryd.func82 rfl fun c₀ cs hu => ?_
  apply wpS_seq
  apply wpS_region
  simp [wpOpsS, go_sem, recoverD, hu, Tryd.ntmps82, Exit.thenS]
  rw [tmps14]
  have hy := trap_nil
  have hq := nil_neq
  refine wpS_of_wp ?_
  go_wp2
  exact ⟨rfl, _, by rw [← hu], .tuple #[], results_none rfl _ _ _, rfl, rfl, rfl⟩
end Go.Proofs.YtimegcnpembhkaaDoor
namespace Go.Proofs.YtimegcnpembhkaaDoor
open Go.RowKit
open Go.Lib hiding intOf
set_option linter.unusedVariables false

def RPost (B b bm bb : Nat) (r : List UInt8 × Int × Nat) (w : World) (e : Ending) (w' : World) : Prop :=
  e = .returned (.int .i64 r.2.1) ∧ ∃ M' st dv cv iv ov, LibM w' B b bm bb M' r.2.2 st dv cv iv ov ∧ M'.out = r.1 ∧ Below B w w'
theorem libM_enter {w : World} {B b bm bb : Nat} {M : MS} {steps : Nat} {st : Bool} {dv cv iv ov : Value} (h : LibM w B b bm bb M steps st dv cv iv ov) (hBw : B ≤ w.heap.size) :
    LibM (w.alloc (.cells #[.int .i64 0] 24)) B b bm bb (M.ghost (some (w.heap.size, 0))) steps st dv cv iv ov := by
  obtain ⟨h1, h2, h3, h4⟩ := h
  have hn : ∀ (T : TypeId) cs fz, w.heap[w.heap.size]? ≠ some (.cells cs T fz) := fun T cs fz e => by simp at e
  have p := h3.keep (b := w.heap.size) hBw (hn _) (hn _) (hn _) (Keep.alloc (.cells #[.int .i64 0] 24))
  have hbb : bb < w.heap.size := by
    rcases Nat.lt_or_ge bb w.heap.size with h | h
    · exact h
    · simp [Array.getElem?_eq_none h] at h4
  refine ⟨h1.alloc _, h2, ⟨p.hbm, p.mem, p.data, p.calls, p.out, p.inp, p.dm, p.cm, p.dc, fun k x e => ?_⟩, by rw [Below.heap_alloc _ _ _ hbb]; exact h4⟩
  cases e
  exact heap_alloc_new w _
/-- what is known of the machine's world is known where only blocks of other types have turned -/
theorem libM_leave {w w' : World} {B b bm bb r : Nat} {M : MS} {steps : Nat} {st : Bool} {dv cv iv ov : Value} {T : TypeId} {xs : Array Value} {fz : Nat × Nat} (h : LibM w B b bm bb M steps st dv cv iv ov) (hB : B ≤ r)
    (hr : w.heap[r]? = some (.cells xs T fz)) (h1 : T ≠ 93) (h2 : T ≠ 47) (h3 : T ≠ 5) (hk : Keep r w w') : LibM w' B b bm bb (M.ghost none) steps st dv cv iv ov := by
  obtain ⟨k1, k2, k3, k4⟩ := h
  have hne : ∀ e : TypeId, T ≠ e → ∀ cs fz', w.heap[r]? ≠ some (.cells cs e fz') := fun e he cs fz' hc => by
    rw [hr] at hc
    simp only [Option.some.injEq, Obj.cells.injEq] at hc
    exact he hc.2.1
  have hb : b ≠ r := fun e => hne _ h1 _ _ (e ▸ k1)
  have hbb : bb ≠ r := fun e => by rw [← e, k4] at hr; cases hr
  obtain ⟨arr, m1, m2, m3⟩ := k3.mem
  refine ⟨hk.block b _ hb k1, k2, ⟨k3.hbm, ⟨arr, hk.block bm _ (fun e => hne _ h2 _ _ (e ▸ m1)) m1, m2, m3⟩, own_keep k3.data hk (own_type k3.data (hne _ h2)), own_keep k3.calls hk (own_type k3.calls (hne _ h2)), own_keep k3.out hk (own_type k3.out (hne _ h3)), ?_, k3.dm, k3.cm, k3.dc, fun k x e => by cases e⟩, hk.block bb _ hbb k4⟩
  obtain ⟨A, n, c, rfl, hl, hA⟩ := k3.inp
  exact ⟨A, n, c, rfl, hl.keep hA hB hk, hA⟩
theorem LibM.drewN {w : World} {B b bm bb : Nat} {M : MS} {steps : Nat} {st : Bool} {dv cv iv ov : Value} (h : LibM w B b bm bb M steps st dv cv iv ov) (n : Nat) : LibM (w.drewN n) B b bm bb M steps st dv cv iv ov := by
  obtain ⟨h1, h2, ⟨p1, p2, p3, p4, p5, p6, p7, p8, p9, p10⟩, h4⟩ := h
  refine ⟨h1, h2, ⟨p1, p2, p3, p4, p5, ?_, p7, p8, p9, p10⟩, h4⟩
  obtain ⟨A, n, c, e, hl, hA⟩ := p6
  exact ⟨A, n, c, e, ⟨hl.len, hl.room, hl.max, hl.at_⟩, hA⟩
/-- what holds at the head of run's loop -/
structure RInv (B b bm bb limit : Nat) (R : List UInt8 × Int × Nat) (r : Nat) (w wr : World) (k : Nat) (M1 : MS) (dv cv iv ov : Value) : Prop where
  le : k ≤ limit
  lib : LibM wr B b bm bb M1 k false dv cv iv ov
  ok : M1.Ok
  out : M1.out.length ≤ k
  run : runS (limit - k) k M1 = R
  below : Below B w wr
  res : M1.res = some (r, 0)
/-- the door: the deferred closure where the body returned -/
theorem door_ret {r : Nat} {x : Int} {t : Array Value} {W : World} {Q : Ending → World → Prop} (ht : t.getD 4 undef = .pointer (some ⟨r, 0, none⟩)) (hc : W.heap[r]? = some (.cells #[.int .i64 x] 24 (0, 0)))
    (hq : Q (.returned (.int .i64 x)) (W.alloc (.cells #[] 114))) : Leaves Tryd.prog Tryd.f51 t Q [{ target := .fn (.func 82) #[.pointer (some ⟨r, 0, none⟩)], args := #[] }] .returning W := by
  have hlt : r < W.heap.size := (Array.getElem?_eq_some_iff.1 hc).1
  refine leaves_cons (f := 82) (args := #[.pointer (some ⟨r, 0, none⟩)]) (by simp) (by simp [go_sem]) ?_
  refine (catch_none ⟨r, 0, none⟩ W hlt).mono ?_
  rintro e u' w' ⟨rfl, rfl, rfl⟩
  have hc' : (W.alloc (.cells #[] 114)).cell? ⟨r, 0, none⟩ = some (.int .i64 x) := by
    unfold World.cell?
    rw [Below.heap_alloc _ _ _ hlt, hc]
    rfl
  have ht' : t[4]?.getD undef = .pointer (some ⟨r, 0, none⟩) := by rw [← Array.getD_eq_getD_getElem?]; exact ht
  refine ⟨_, ?_, hq⟩
  simp [results, Tryd.results51, go_sem, ht', hc']
/-- the door: where the body panicked with a trap -/
theorem door_trap {r : Nat} {x : Int} {t : Array Value} {W : World} {Q : Ending → World → Prop} (ht : t.getD 4 undef = .pointer (some ⟨r, 0, none⟩)) (hc : W.heap[r]? = some (.cells #[.int .i64 x] 24 (0, 0)))
    (hq : Q (.returned (.int .i64 12)) ((W.alloc (.cells #[] 114)).setCell ⟨r, 0, none⟩ (.int .i64 12))) : Leaves Tryd.prog Tryd.f51 t Q [{ target := .fn (.func 82) #[.pointer (some ⟨r, 0, none⟩)], args := #[] }] (.panicking [{ v := trapV, recovered := false }]) W := by
  have hlt : r < W.heap.size := (Array.getElem?_eq_some_iff.1 hc).1
  refine leaves_cons (f := 82) (args := #[.pointer (some ⟨r, 0, none⟩)]) (by simp) (by simp [go_sem]) ?_
  refine (catch_trap ⟨r, 0, none⟩ x [] W (by simp [World.cell?, hc]) (Lib.frozen_of_heap hc 0) hlt).mono ?_
  rintro e u' w' ⟨rfl, rfl, rfl⟩
  have hc' : (((W.alloc (.cells #[] 114)).setCell ⟨r, 0, none⟩ (.int .i64 12)).cell? ⟨r, 0, none⟩) = some (.int .i64 12) := by
    unfold World.cell? World.setCell
    simp [Array.getElem?_modify, Below.heap_alloc _ _ _ hlt, hc]
  have ht' : t[4]?.getD undef = .pointer (some ⟨r, 0, none⟩) := by rw [← Array.getD_eq_getD_getElem?]; exact ht
  refine ⟨_, ?_, hq⟩
  simp [results, Tryd.results51, go_sem, ht', hc']
theorem leave_ok {w W : World} {B b bm bb r : Nat} {M1 : MS} {steps : Nat} {st : Bool} {dv cv iv ov : Value} {x : Int} {R : List UInt8 × Int × Nat} (h : LibM W B b bm bb M1 steps st dv cv iv ov) (hx : Below B w W) (hBW : B ≤ W.heap.size) (hR : R = (M1.out, x, steps)) :
    RPost B b bm bb R w (.returned (.int .i64 x)) (W.alloc (.cells #[] 114)) := by
  subst hR
  obtain ⟨h1, h2, h3, h4⟩ := h
  have hn : ∀ (T : TypeId) cs fz, W.heap[W.heap.size]? ≠ some (.cells cs T fz) := fun T cs fz e => by simp at e
  have p := h3.keep (b := W.heap.size) hBW (hn _) (hn _) (hn _) (Keep.alloc (.cells #[] 114))
  have hbb : bb < W.heap.size := by
    rcases Nat.lt_or_ge bb W.heap.size with h | h
    · exact h
    · simp [Array.getElem?_eq_none h] at h4
  exact ⟨rfl, M1, st, dv, cv, iv, ov, ⟨h1.alloc _, h2, p, by rw [Below.heap_alloc _ _ _ hbb]; exact h4⟩, rfl, hx.alloc hBW _⟩
theorem leave_trap {w W : World} {B b bm bb r : Nat} {M1 : MS} {steps : Nat} {st : Bool} {dv cv iv ov : Value} {R : List UInt8 × Int × Nat} {x : Int} (h : LibM W B b bm bb M1 steps st dv cv iv ov) (hx : Below B w W) (hBr : B ≤ r) (hBW : B ≤ W.heap.size)
    (hc : W.heap[r]? = some (.cells #[.int .i64 x] 24 (0, 0))) (hR : R = (M1.out, 12, steps)) :
    RPost B b bm bb R w (.returned (.int .i64 12)) ((W.alloc (.cells #[] 114)).setCell ⟨r, 0, none⟩ (.int .i64 12)) := by
  subst hR
  have hlt : r < W.heap.size := (Array.getElem?_eq_some_iff.1 hc).1
  obtain ⟨-, M', st', dv', cv', iv', ov', h2, h3, h4⟩ := leave_ok (r := r) h hx hBW (x := 12) rfl
  have hc2 : (W.alloc (.cells #[] 114)).heap[r]? = some (.cells #[.int .i64 x] 24 (0, 0)) := by rw [Below.heap_alloc _ _ _ hlt]; exact hc
  exact ⟨rfl, _, st', dv', cv', iv', ov', libM_leave h2 hBr hc2 (by decide) (by decide) (by decide) (Keep.set 0 _), h3, h4.setCell hBr _⟩
theorem runS_succ {limit k : Nat} (h : k < limit) (m : MS) : runS (limit - k) k m = if 262144 ≤ m.pc then (m.out, 12, k + 1) else if m.mem m.pc = 36 then (m.out, 0, k + 1) else
    match stepS { m with pc := m.pc + 1 } (m.mem m.pc) with
    | none => (m.out, 12, k + 1)
    | some m' => runS (limit - (k + 1)) (k + 1) { m' with digit := digN (m.mem m.pc) } := by
  rw [show limit - k = (limit - (k + 1)) + 1 by omega]
  rfl
set_option maxRecDepth 100000 in
set_option maxHeartbeats 1600000 in
theorem run_any (B b bm bb : Nat) (M : MS) (dv cv iv ov : Value) (w : World) (h : LibM w B b bm bb M 0 false dv cv iv ov) (ok : M.Ok) (ho : M.out = []) (hBw : B ≤ w.heap.size) (limit : Nat) (hl : limit ≤ 100000000) :
    Calls Tryd.prog 51 #[.pointer (some ⟨b, 0, none⟩), .int .i64 (limit : Int)] w (RPost B b bm bb (runS limit 0 M) w) := by
  have hmf : ∀ (fn : Fn) (first cap : Array Value) (w : World), (Instr.makeFunc fn first cap).run Tryd.prog w = .ok (.func fn first cap) w := fun _ _ _ _ => rfl
  obtain ⟨R, hR⟩ : ∃ R, R = runS limit 0 M := ⟨_, rfl⟩
  rw [← hR]
  have hr0 : runS (limit - 0) 0 (M.ghost (some (w.heap.size, 0))) = R := by rw [runS_ghost, hR]; rfl
  have H0 := Lib.hid (show RInv B b bm bb limit R w.heap.size w (w.alloc (.cells #[.int .i64 0] 24)) 0 (M.ghost (some (w.heap.size, 0))) dv cv iv ov from ⟨Nat.zero_le _, libM_enter h hBw, ⟨ok.mem, ok.pc, ok.data, ok.calls, ok.input, ok.dlen, ok.clen, ok.ilen, ok.dig⟩, by show M.out.length ≤ 0; rw [ho]; exact Nat.le_refl _, hr0, (Below.refl B w).alloc hBw _, rfl⟩)
  clear hR hr0 h ok ho
  go_enter_defers Tryd.func51, Tryd.ntmps51
  go_wp2_with fail
  go_loopw [5] (fun _ wr => ∃ k M1 dv cv iv ov, RInv B b bm bb limit R w.heap.size w wr k M1 dv cv iv ov) (fun _ wr => limit - (intOf ((wr.cell? ⟨b, 7, none⟩).getD undef)).toNat)
  case atStart => exact ⟨_, _, _, _, _, _, H0.out⟩
  case round =>
    obtain ⟨k, M1, dv1, cv1, iv1, ov1, hI⟩ := hrel
    obtain ⟨⟨c0, c1, c2, c3, c4, c5, c6, c7, c8, c9⟩, hfz, hlt⟩ := ten hI.lib.1
    have f1 := hfz 1
    have f4 := hfz 4
    have f6 := hfz 6
    have f7 := hfz 7
    have hkl := hI.le
    have hres := hI.lib.2.2.1.res _ _ hI.res
    have hrc : wr.cell? ⟨w.heap.size, 0, none⟩ = some (.int .i64 0) := by simp [World.cell?, hres]
    have hrf : wr.frozen? ⟨w.heap.size, 0, none⟩ = false := Lib.frozen_of_heap hres 0
    have hBr : B ≤ w.heap.size := hBw
    by_cases hk : k < limit
    · have hrun := hI.run
      rw [runS_succ hk] at hrun
      have hdk : decide ((k : Int) < (limit : Int)) = true := decide_eq_true (by omega)
      have hLW := hI.lib.cell (M' := M1) (steps' := k + 1) 7 (.int .i64 ((k : Int) + 1)) rfl (hI.lib.2.2.1.same rfl rfl rfl rfl rfl)
      have hbW : Below B w (wr.setCell ⟨b, 7, none⟩ (.int .i64 ((k : Int) + 1))) := hI.below.setCell hI.lib.2.1 _
      have hrW := hLW.2.2.1.res _ _ hI.res
      have hBW : B ≤ (wr.setCell ⟨b, 7, none⟩ (.int .i64 ((k : Int) + 1))).heap.size := Nat.le_trans hBw hbW.size
      have hpc := hI.ok.pc
      by_cases hpp : 262144 ≤ M1.pc
      · rw [if_pos hpp] at hrun
        have HE := Lib.hid (leave_trap hLW hbW hBw hBW hrW hrun.symm)
        have HR := Lib.hid hrW
        have hdt : decide ((M1.pc : Int) < 262144) = false := decide_eq_false (by omega)
        have HC := Lib.hid (fun W => check_false W)
        clear hrun hLW hbW hrW hBW hI hfz hres
        go_wp2_with fail
        refine (HC.out _).mono ?_
        rintro e w2 ⟨rfl, rfl⟩
        go_wp2_with fail
        exact door_trap rfl HR.out HE.out
      · rw [if_neg hpp] at hrun
        have hdt : decide ((M1.pc : Int) < 262144) = true := decide_eq_true (by omega)
        have hpi : (M1.pc : Int) < 262144 := by omega
        obtain ⟨hm1, hm2⟩ := hLW.2.2.1.mem.cell (i := M1.pc) (by omega)
        have HC := Lib.hid (fun W => check_true W)
        have HL := Lib.hid (fun n => (hLW.drewN n).cell (M' := { M1 with pc := M1.pc + 1 }) 1 (.int .u32 ((M1.pc : Int) + 1)) rfl ((hLW.drewN n).2.2.1.same rfl rfl rfl rfl rfl))
        have HX := Lib.hid hbW
        have hmv := hI.ok.mem M1.pc
        obtain ⟨c, hc⟩ : ∃ c, c = M1.mem M1.pc := ⟨_, rfl⟩
        rw [← hc] at hm1 hrun hmv
        have HI := Lib.hid hI
        have HRun := Lib.hid hrun
        have HCC := Lib.hid hc
        clear hrun hLW hbW hrW hBW hI hfz hres hm2 hc
        go_wp2_with fail
        refine (HC.out _).mono ?_
        rintro e w2 ⟨rfl, rfl⟩
        go_wp2_with fail
        go_quiet (fail)
        go_wp2_with fail
        clear c0 c1 c2 c3 c4 c5 c6 c8 c9 hm1 f1 f4 f6 f7 hlt hrc hrf
        have hLW := HL.out nq
        have hB2 : Below B w ((wr.setCell ⟨b, 7, none⟩ (.int .i64 ((k : Int) + 1))).drewN nq) := ⟨HX.out.os, HX.out.tape, HX.out.output, HX.out.size, HX.out.block⟩
        have hB3 : Below B w (((wr.setCell ⟨b, 7, none⟩ (.int .i64 ((k : Int) + 1))).drewN nq).setCell ⟨b, 1, none⟩ (.int .u32 ((M1.pc : Int) + 1))) := hB2.setCell hLW.2.1 _
        clear hB2
        by_cases h36 : c = 36
        · have hrun := HRun.out
          rw [if_pos h36] at hrun
          have HE := Lib.hid (exec_stop B b bm bb { M1 with pc := M1.pc + 1 } (k + 1) dv1 cv1 iv1 ov1 _ hLW)
          have HB3 := Lib.hid hB3
          have HR2 := Lib.hid hrun
          clear hrun hLW hB3
          subst h36
          refine HE.out.mono ?_
          rintro e w3 ⟨rfl, h3, hb3⟩
          obtain ⟨⟨d0, d1, d2, d3, d4, d5, d6, d7, d8, d9⟩, -, -⟩ := ten h3.1
          have hres := h3.2.2.1.res _ _ HI.out.res
          have hrf : w3.frozen? ⟨w.heap.size, 0, none⟩ = false := Lib.frozen_of_heap hres 0
          have hrc : w3.cell? ⟨w.heap.size, 0, none⟩ = some (.int .i64 0) := by simp [World.cell?, hres]
          have hL := libM_leave h3 hBw hres (by decide) (by decide) (by decide) (Keep.set 0 (.int .i64 0))
          have hx := (HB3.out.trans hb3).setCell hBw (p := ⟨w.heap.size, 0, none⟩) (.int .i64 0)
          have HF := Lib.hid (leave_ok (r := 0) hL hx (by have := hx.size; omega) (x := 0) HR2.out.symm)
          have HR : Hid ((w3.setCell ⟨w.heap.size, 0, none⟩ (.int .i64 0)).heap[w.heap.size]? = some (.cells #[.int .i64 0] 24 (0, 0))) := by
            show _ = _
            simp [World.setCell, Array.getElem?_modify, hres]
          clear hL hx h3 hb3 hres
          go_wp2_with fail
          exact door_ret rfl HR.out HF.out
        · have hrun := HRun.out
          rw [if_neg h36] at hrun
          have hpc1 : ({ M1 with pc := M1.pc + 1 } : MS).Ok := ⟨HI.out.ok.mem, by show M1.pc + 1 < _; omega, HI.out.ok.data, HI.out.ok.calls, HI.out.ok.input, HI.out.ok.dlen, HI.out.ok.clen, HI.out.ok.ilen, HI.out.ok.dig⟩
          have hex := exec_any B b bm bb { M1 with pc := M1.pc + 1 } (k + 1) dv1 cv1 iv1 ov1 _ hLW hpc1 (by show M1.out.length ≤ _; have := HI.out.out; omega) (Nat.le_trans hBw hB3.size) c hmv h36
          cases hst : stepS { M1 with pc := M1.pc + 1 } c with
          | none =>
            rw [hst] at hrun hex
            have HE := Lib.hid hex
            have HB3 := Lib.hid hB3
            have HR2 := Lib.hid hrun
            clear hrun hex hB3 hLW hst hpc1
            refine HE.out.mono ?_
            rintro e w3 ⟨rfl, M', dv2, cv2, iv2, ov2, h3, ho3, hb3⟩
            have ho : M'.out = M1.out := congrArg Prod.fst ho3
            have hre : M'.res = some (w.heap.size, 0) := (congrArg Prod.snd ho3).trans HI.out.res
            have hres := h3.2.2.1.res _ _ hre
            have hx := HB3.out.trans hb3
            have HF := Lib.hid (leave_trap h3 hx hBw (by have := hx.size; omega) hres (R := R) (by rw [ho]; exact HR2.out.symm))
            have HR := Lib.hid hres
            clear ho hre hres hx h3 hb3 ho3
            go_wp2_with fail
            exact door_trap rfl HR.out HF.out
          | some M' =>
            rw [hst] at hrun hex
            obtain ⟨g1, g2, g3⟩ := step_fit hpc1 hmv hst
            have g4 := step_res hst
            have HE := Lib.hid hex
            have HB3 := Lib.hid hB3
            have HR2 := Lib.hid hrun
            have G1 := Lib.hid g1
            have G3 := Lib.hid g3
            have G4 := Lib.hid (g4.trans HI.out.res)
            have hol : M'.out.length ≤ k + 1 := by have := HI.out.out; have : ({ M1 with pc := M1.pc + 1 } : MS).out.length = M1.out.length := rfl; omega
            clear hrun hex hB3 hLW hst hpc1 g1 g2 g3 g4
            refine HE.out.mono ?_
            rintro e w3 ⟨rfl, dv2, cv2, iv2, ov2, h3, hb3⟩
            obtain ⟨⟨d0, d1, d2, d3, d4, d5, d6, d7, d8, d9⟩, hfz, hlt⟩ := ten h3.1
            have f6 := hfz 6
            have H3 := Lib.hid h3
            have hx := HB3.out.trans hb3
            clear h3 hb3 hfz hlt
            have hend : ∀ v, digN c = v → (∃ k M1 dv cv iv ov, RInv B b bm bb limit R w.heap.size w (w3.setCell ⟨b, 6, none⟩ (.bool v)) k M1 dv cv iv ov) ∧ (w3.setCell ⟨b, 6, none⟩ (.bool v)).cell? ⟨b, 7, none⟩ = some (.int .i64 ((k + 1 : Nat) : Int)) := by
              rintro v rfl
              have hL := H3.out.cell (M' := { M' with digit := digN c }) 6 (.bool (digN c)) rfl (H3.out.2.2.1.same rfl rfl rfl rfl rfl)
              exact ⟨⟨k + 1, { M' with digit := digN c }, dv2, cv2, iv2, ov2, ⟨by omega, hL, G1.out.ok _ G3.out, hol, HR2.out, hx.setCell H3.out.2.1 _, G4.out⟩⟩, (ten hL.1).1.2.2.2.2.2.2.2.1⟩
            have HEnd := Lib.hid hend
            clear hend
            have hsp : c < 48 ∨ (48 ≤ c ∧ c ≤ 57) ∨ 57 < c := by omega
            rcases hsp with hs | ⟨hs1, hs2⟩ | hs
            · have e1 : decide ((48 : Int) ≤ (c : Int)) = false := decide_eq_false (by omega)
              have HD := Lib.hid (show digN c = false by unfold digN; rw [decide_eq_false (by omega)]; rfl)
              go_wp2_with fail
              go_roundw
              case rel => exact (HEnd.out _ HD.out).1
              case measure =>
                have e7 := (HEnd.out _ HD.out).2
                rw [e7, c7]
                simp only [Option.getD_some, intOf]
                omega
            · have e1 : decide ((48 : Int) ≤ (c : Int)) = true := decide_eq_true (by omega)
              have e2 : decide ((c : Int) ≤ 57) = true := decide_eq_true (by omega)
              have HD := Lib.hid (show digN c = true by unfold digN; rw [decide_eq_true (by omega), decide_eq_true (by omega)]; rfl)
              go_wp2_with fail
              go_roundw
              case rel => exact (HEnd.out _ HD.out).1
              case measure =>
                have e7 := (HEnd.out _ HD.out).2
                rw [e7, c7]
                simp only [Option.getD_some, intOf]
                omega
            · have e1 : decide ((48 : Int) ≤ (c : Int)) = true := decide_eq_true (by omega)
              have e2 : decide ((c : Int) ≤ 57) = false := decide_eq_false (by omega)
              have HD := Lib.hid (show digN c = false by unfold digN; rw [decide_eq_false (show ¬ c ≤ 57 by omega)]; simp)
              go_wp2_with fail
              go_roundw
              case rel => exact (HEnd.out _ HD.out).1
              case measure =>
                have e7 := (HEnd.out _ HD.out).2
                rw [e7, c7]
                simp only [Option.getD_some, intOf]
                omega
    · have hdt : decide ((k : Int) < (limit : Int)) = false := decide_eq_false (by omega)
      obtain rfl : k = limit := by omega
      have hrun := hI.run
      rw [Nat.sub_self] at hrun
      have hBW : B ≤ wr.heap.size := Nat.le_trans hBw hI.below.size
      have hL := libM_leave hI.lib hBw hres (by decide) (by decide) (by decide) (Keep.set 0 (.int .i64 13))
      have hx := hI.below.setCell hBw (p := ⟨w.heap.size, 0, none⟩) (.int .i64 13)
      have HE := Lib.hid (leave_ok (r := 0) hL hx (by simp [World.setCell]; exact hBW) (x := 13) hrun.symm)
      have HR : Hid ((wr.setCell ⟨w.heap.size, 0, none⟩ (.int .i64 13)).heap[w.heap.size]? = some (.cells #[.int .i64 13] 24 (0, 0))) := by
        show _ = _
        simp [World.setCell, Array.getElem?_modify, hres]
      clear hrun hL hx hBW hI hfz hres c0 c1 c2 c3 c4 c5 c6 c8 c9
      go_wp2_with fail
      exact door_ret rfl HR.out HE.out
end Go.Proofs.YtimegcnpembhkaaDoor
namespace Go.Proofs.YtimegcnpembhkaaDoor
open Go.RowKit
open Go.Lib hiding intOf
set_option linter.unusedVariables false
attribute [local simp] Slots Slot look Is Oper.looksAt Op.operands Call.operands

/-- a text at an address, all else 0 -/
def memT (at_ : Nat) (l : List UInt8) : Nat → Nat := fun i => if at_ ≤ i ∧ i < at_ + l.length then (l[i - at_]?.getD 0).toNat else 0
def m0 (at_ : Nat) (l : List UInt8) (start : Nat) (input : List Nat) : MS := ⟨memT at_ l, start, [], [], input, [], false, none⟩
/-- the outcome of a run -/
def runO (at_ : Nat) (l : List UInt8) (start : Nat) (input : List Nat) (steps : Int) : List UInt8 × Int × Int :=
  if 100000000 < steps then ([], 6, 0) else if steps ≤ 0 then ([], 13, 0) else ((runS steps.toNat 0 (m0 at_ l start input)).1, (runS steps.toNat 0 (m0 at_ l start input)).2.1, ((runS steps.toNat 0 (m0 at_ l start input)).2.2 : Int))
def outV (r : List UInt8 × Int × Int) : Value := .agg #[.string (BA r.1), .int .i64 r.2.1, .int .i64 r.2.2]
theorem memT_nil (at_ : Nat) : memT at_ [] = fun _ => 0 := by
  funext i
  unfold memT
  rw [if_neg (by simp)]
theorem memT_snoc (at_ : Nat) (l : List UInt8) (k : Nat) (hk : k < l.length) : setM (memT at_ (l.take k)) (at_ + k) (l[k]).toNat = memT at_ (l.take (k + 1)) := by
  funext i
  have h1 : (l.take k).length = k := by rw [List.length_take]; omega
  have h2 : (l.take (k + 1)).length = k + 1 := by rw [List.length_take]; omega
  unfold setM memT
  rw [h1, h2]
  by_cases e : i = at_ + k
  · subst e
    rw [if_pos rfl, if_pos ⟨by omega, by omega⟩, show at_ + k - at_ = k by omega, List.getElem?_take_of_lt (by omega), List.getElem?_eq_getElem hk]
    rfl
  · rw [if_neg e]
    by_cases h : at_ ≤ i ∧ i < at_ + k
    · rw [if_pos h, if_pos ⟨h.1, by omega⟩, List.getElem?_take_of_lt (by omega), List.getElem?_take_of_lt (by omega)]
    · rw [if_neg h, if_neg (by omega)]
theorem m0_step (at_ : Nat) (l : List UInt8) (start : Nat) (input : List Nat) (k : Nat) (hk : k < l.length) : ({ m0 at_ (l.take k) start input with mem := setM (m0 at_ (l.take k) start input).mem (at_ + k) (l[k]).toNat } : MS) = m0 at_ (l.take (k + 1)) start input := by
  have h := memT_snoc at_ l k hk
  unfold m0
  dsimp only
  rw [h]
theorem memT_lt (at_ : Nat) (l : List UInt8) (i : Nat) : memT at_ l i < 4294967296 := by
  unfold memT
  split
  · exact Nat.lt_of_lt_of_le (UInt8.toNat_lt _) (by decide)
  · decide
/-- the cells of a new memory -/
def memZ : Array Value := madeCells #[.int .u32 0] 262144
theorem memZ_size : memZ.size = 262144 := size_madeCells _ _
theorem memZ_get (i : Nat) (h : i < 262144) : memZ[i]? = some (.int .u32 0) := by
  have hs := memZ_size
  rw [Array.getElem?_eq_getElem (by omega)]
  unfold memZ
  simp [madeCells, Nat.mod_one]
theorem make_mem (W : World) :
    (Instr.makeSlice 88 (.int .i64 262144) (.int .i64 262144)).run Tryd.prog W = .ok (.slice (some ⟨W.heap.size, 0, none⟩) 262144 262144) (W.alloc (.cells memZ 47)) := by
  obtain ⟨i0, hi, hz0, hz1, hz2⟩ := info_parts u32InfoM
  have h := run_make (P := Tryd.prog) W 88 47 i0 (.int .u32 0) Tryd.underlying88 hi hz0 .i64 .i64 262144 262144 (by decide) (by decide) (by rw [hz2]; decide) (by decide)
  rw [hz1] at h
  exact h
theorem conv_bytes {w : World} {base n : Nat} {v : Value} {l : List UInt8} (h : w.ownsRow base 5 1 v n (Lib.byteCells l)) (hn : n = l.length) :
    (convert 43 9 v).run Tryd.prog w = .ok (.string (BA l)) w := by
  subst hn
  rcases hv : h.2 with ⟨rfl, h0⟩ | ⟨g, cap, cur, rfl, hh⟩
  · have hl : l = [] := by cases l with | nil => rfl | cons a b => simp at h0
    subst hl
    exact run_convert_bytes_nil (P := Tryd.prog) w 43 5 Tryd.underlying43 Tryd.underlying5 _ _ 9 Tryd.underlying9
  · exact run_convert_bytes_back (P := Tryd.prog) w 43 9 5 ⟨g, 0, none⟩ cap l Tryd.underlying43 Tryd.underlying5 Tryd.underlying9 (fun j hj => h.cells rfl j _ (by unfold Lib.byteCells; rw [List.getElem?_map, List.getElem?_eq_getElem hj]; rfl))
/-- the parts of the machine as they are made -/
def MapV : AV := fun w v => ∃ bb, v = .map (some bb) ∧ w.heap[bb]? = some (.map binEs 7)
theorem Up.mapV : Up MapV := by
  intro w w' v hx ⟨bb, h1, h2⟩
  have hb : bb < w.heap.size := by
    rcases Nat.lt_or_ge bb w.heap.size with h | h
    · exact h
    · simp [Array.getElem?_eq_none h] at h2
  exact ⟨bb, h1, by rw [hx.block bb hb]; exact h2⟩
theorem binaries_map (w : World) : Calls Tryd.prog 50 #[] w fun e w' => ∃ v, e = .returned v ∧ Ext w w' ∧ MapV w' v := (binaries_any w).mono fun e w' ⟨he, hx, hm⟩ => ⟨_, he, hx, _, rfl, hm⟩
structure PartV (w0 w : World) (bm bb : Nat) : Prop where
  le : w0.heap.size ≤ bm
  mem : w.heap[bm]? = some (.cells memZ 47 (0, 0))
  map : w.heap[bb]? = some (.map binEs 7)
theorem PartV.ext {w0 w w' : World} {bm bb : Nat} (h : PartV w0 w bm bb) (hx : Ext w w') : PartV w0 w' bm bb := by
  have lt : ∀ {b : Nat} {o : Obj}, w.heap[b]? = some o → b < w.heap.size := fun {b o} h2 => by
    rcases Nat.lt_or_ge b w.heap.size with h | h
    · exact h
    · simp [Array.getElem?_eq_none h] at h2
  exact ⟨h.le, by rw [hx.block bm (lt h.mem)]; exact h.mem, by rw [hx.block bb (lt h.map)]; exact h.map⟩
def machCells (bm start bb : Nat) (iv : Value) : List Value := [.slice (some ⟨bm, 0, none⟩) 262144 262144, .int .u32 (start : Int), .slice none 0 0, .slice none 0 0, iv, .slice none 0 0, .bool false, .int .i64 0, .bool false, .map (some bb)]
def AggV (w0 : World) (start : Nat) (iv : Value) : AV := fun w v => ∃ bm bb, v = .agg (machCells bm start bb iv).toArray ∧ PartV w0 w bm bb
theorem Up.aggV (w0 : World) (start : Nat) (iv : Value) : Up (AggV w0 start iv) := fun _ _ _ hx ⟨bm, bb, h1, h2⟩ => ⟨bm, bb, h1, h2.ext hx⟩
def BoxV (w0 : World) (start : Nat) (iv : Value) : AV := fun w v => ∃ b bm bb, v = .pointer (some ⟨b, 0, none⟩) ∧ w0.heap.size ≤ b ∧ Blk w b 93 (machCells bm start bb iv) ∧ PartV w0 w bm bb
theorem Up.boxV (w0 : World) (start : Nat) (iv : Value) : Up (BoxV w0 start iv) := fun _ _ _ hx ⟨b, bm, bb, h1, h2, h3, h4⟩ => ⟨b, bm, bb, h1, h2, h3.ext hx, h4.ext hx⟩

theorem mapV_spec {w : World} {v : Value} (h : MapV w v) : ∃ bb, v = .map (some bb) ∧ w.heap[bb]? = some (.map binEs 7) := h
theorem aggV_spec {w0 w : World} {start : Nat} {iv v : Value} (h : AggV w0 start iv w v) : ∃ bm bb, v = .agg #[.slice (some ⟨bm, 0, none⟩) 262144 262144, .int .u32 (start : Int), .slice none 0 0, .slice none 0 0, iv, .slice none 0 0, .bool false, .int .i64 0, .bool false, .map (some bb)] ∧ PartV w0 w bm bb := h
theorem aggV_new {w0 w : World} {start : Nat} {iv : Value} {bm bb : Nat} (h1 : w0.heap.size ≤ bm) (h2 : w.heap[bm]? = some (.cells memZ 47 (0, 0))) (h3 : w.heap[bb]? = some (.map binEs 7)) :
    growUpon Tryd.prog w (AggV w0 start iv) (.ok (.value (.agg #[.slice (some ⟨bm, 0, none⟩) 262144 262144, .int .u32 (start : Int), .slice none 0 0, .slice none 0 0, iv, .slice none 0 0, .bool false, .int .i64 0, .bool false, .map (some bb)])) w) :=
  ⟨Ext.refl _, bm, bb, rfl, ⟨h1, h2, h3⟩⟩
theorem boxV_new {w0 w : World} {start : Nat} {iv : Value} {bm bb : Nat} (hg : Ext w0 w) (h : PartV w0 w bm bb) :
    growUpon Tryd.prog w (BoxV w0 start iv) (.ok (.value (.pointer (some ⟨w.heap.size, 0, none⟩))) (w.alloc (.cells #[.slice (some ⟨bm, 0, none⟩) 262144 262144, .int .u32 (start : Int), .slice none 0 0, .slice none 0 0, iv, .slice none 0 0, .bool false, .int .i64 0, .bool false, .map (some bb)] 93))) :=
  ⟨(Ext.refl _).alloc _, _, bm, bb, rfl, hg.size, heap_alloc_new w _, h.ext ((Ext.refl _).alloc _)⟩

theorem LibM.alloc {W : World} {B b bm bb : Nat} {M1 : MS} {steps : Nat} {st : Bool} {dv cv iv ov : Value} (h : LibM W B b bm bb M1 steps st dv cv iv ov) (hBW : B ≤ W.heap.size) (o : Obj) : LibM (W.alloc o) B b bm bb M1 steps st dv cv iv ov := by
  obtain ⟨h1, h2, h3, h4⟩ := h
  have hn : ∀ (T : TypeId) cs fz, W.heap[W.heap.size]? ≠ some (.cells cs T fz) := fun T cs fz e => by simp at e
  have p := h3.keep (b := W.heap.size) hBW (hn _) (hn _) (hn _) (Keep.alloc o)
  have hbb : bb < W.heap.size := by
    rcases Nat.lt_or_ge bb W.heap.size with h | h
    · exact h
    · simp [Array.getElem?_eq_none h] at h4
  exact ⟨h1.alloc _, h2, p, by rw [Below.heap_alloc _ _ _ hbb]; exact h4⟩
theorem Blk.set_ne {w : World} {b g j : Nat} {T : TypeId} {xs : List Value} {v : Value} (h : Blk w b T xs) (hne : b ≠ g) : Blk (w.setCell ⟨g, j, none⟩ v) b T xs := by
  unfold Blk
  rw [Below.heap_setCell _ _ _ _ hne]
  exact h

set_option maxRecDepth 100000 in
set_option maxHeartbeats 3200000 in
theorem Run_big (at_ start : Nat) (code : ByteArray) (input : List Nat) (steps : Int) (bt ct : Nat) (A : Option Addr) (n c : Nat) (w : World)
    (h0 : w.cell? ⟨bt, 0, none⟩ = some (.int .i64 (at_ : Int))) (h1 : w.cell? ⟨bt, 1, none⟩ = some (.string code)) (hct : 1 ≤ ct) (hct2 : ct ≤ maxLen)
    (ha : at_ + code.size ≤ 262144) (hs : start < 262144) (hb : 100000000 < steps) :
    Calls Tryd.prog 26 #[.slice (some ⟨bt, 0, none⟩) 1 ct, .int .i64 (start : Int), .slice A n c, .int .i64 steps] w fun e w' => e = .returned (outV ([], 6, 0)) ∧ Ext w w' := by
  have d1 : decide ((0 : Int) ≤ (start : Int)) = true := decide_eq_true (by omega)
  have d2 : decide ((start : Int) < 262144) = true := decide_eq_true (by omega)
  have hbt := cell_lt h0
  unfold maxLen at hct2
  obtain ⟨w0, hw0⟩ : ∃ W, W = w.alloc (.cells #[.string ⟨#[]⟩, .int .i64 0, .int .i64 0] 49) := ⟨_, rfl⟩
  have hx0 : Ext w w0 := by rw [hw0]; exact (Ext.refl w).alloc _
  have HR0 : Hid (Blk w0 w.heap.size 49 [.string ⟨#[]⟩, .int .i64 0, .int .i64 0]) := by rw [hw0]; exact heap_alloc_new w _
  have e0 := hx0.cell h0
  have e1 := hx0.cell h1
  go_enter Tryd.func26, Tryd.ntmps26
  go_wp2_with fail
  rw [← hw0]
  go_loopw [9, 25] (fun f i wr => ∃ k : Nat, k ≤ 1 ∧ i = .int .i64 k ∧ f = .bool true ∧ Ext w0 wr) (fun _ i _ => 1 - (intOf i).toNat)
  case atStart => exact ⟨0, by omega, rfl, rfl, Ext.refl _⟩
  case round =>
    obtain ⟨k, hk, rfl, rfl, hx⟩ := hrel
    have g0 := hx.cell e0
    have g1 := hx.cell e1
    by_cases hk1 : k < 1
    · obtain rfl : k = 0 := by omega
      have t1 : decide ((0 : Int) ≤ (at_ : Int)) = true := decide_eq_true (by omega)
      have t2 : decide ((at_ : Int) ≤ 262144 - (code.size : Int)) = true := decide_eq_true (by omega)
      go_wp2_with fail
      go_roundw
      case rel => exact ⟨1, by omega, by go_num, rfl, hx.alloc _⟩
      case measure => simp [intOf]
    · obtain rfl : k = 1 := by omega
      have b1 := HR0.out.ext hx
      have hfz := blk_frozen b1
      have q0 := b1.cell (i := 0) rfl
      have q1 := b1.cell (i := 1) rfl
      have q2 := b1.cell (i := 2) rfl
      have hx1 := hx0.trans hx
      have hz0 := hfz 0
      have hz1 := hfz 1
      have hz2 := hfz 2
      clear hfz b1
      have s1 : decide ((100000000 : Int) < steps) = true := decide_eq_true hb
      clear hb
      go_wp2_with fail
      exact bodyPost_ret (v := outV ([], 6, 0)) (by unfold outV; simp [results, Tryd.results26, go_sem, q0, q1, q2, BA]) rfl ⟨rfl, ((hx1.set (Nat.le_refl _) _).set (Nat.le_refl _) _).set (Nat.le_refl _) _⟩
set_option maxRecDepth 100000 in
set_option maxHeartbeats 3200000 in
theorem Run_no (at_ start : Nat) (code : ByteArray) (input : List Nat) (steps : Int) (bt ct : Nat) (A : Option Addr) (n c : Nat) (w : World)
    (h0 : w.cell? ⟨bt, 0, none⟩ = some (.int .i64 (at_ : Int))) (h1 : w.cell? ⟨bt, 1, none⟩ = some (.string code)) (hct : 1 ≤ ct) (hct2 : ct ≤ maxLen)
    (ha : at_ + code.size ≤ 262144) (hs : start < 262144) (hb : steps ≤ 0) :
    Calls Tryd.prog 26 #[.slice (some ⟨bt, 0, none⟩) 1 ct, .int .i64 (start : Int), .slice A n c, .int .i64 steps] w fun e w' => e = .returned (outV ([], 13, 0)) ∧ Ext w w' := by
  have d1 : decide ((0 : Int) ≤ (start : Int)) = true := decide_eq_true (by omega)
  have d2 : decide ((start : Int) < 262144) = true := decide_eq_true (by omega)
  have hbt := cell_lt h0
  unfold maxLen at hct2
  obtain ⟨w0, hw0⟩ : ∃ W, W = w.alloc (.cells #[.string ⟨#[]⟩, .int .i64 0, .int .i64 0] 49) := ⟨_, rfl⟩
  have hx0 : Ext w w0 := by rw [hw0]; exact (Ext.refl w).alloc _
  have HR0 : Hid (Blk w0 w.heap.size 49 [.string ⟨#[]⟩, .int .i64 0, .int .i64 0]) := by rw [hw0]; exact heap_alloc_new w _
  have e0 := hx0.cell h0
  have e1 := hx0.cell h1
  go_enter Tryd.func26, Tryd.ntmps26
  go_wp2_with fail
  rw [← hw0]
  go_loopw [9, 25] (fun f i wr => ∃ k : Nat, k ≤ 1 ∧ i = .int .i64 k ∧ f = .bool true ∧ Ext w0 wr) (fun _ i _ => 1 - (intOf i).toNat)
  case atStart => exact ⟨0, by omega, rfl, rfl, Ext.refl _⟩
  case round =>
    obtain ⟨k, hk, rfl, rfl, hx⟩ := hrel
    have g0 := hx.cell e0
    have g1 := hx.cell e1
    by_cases hk1 : k < 1
    · obtain rfl : k = 0 := by omega
      have t1 : decide ((0 : Int) ≤ (at_ : Int)) = true := decide_eq_true (by omega)
      have t2 : decide ((at_ : Int) ≤ 262144 - (code.size : Int)) = true := decide_eq_true (by omega)
      go_wp2_with fail
      go_roundw
      case rel => exact ⟨1, by omega, by go_num, rfl, hx.alloc _⟩
      case measure => simp [intOf]
    · obtain rfl : k = 1 := by omega
      have b1 := HR0.out.ext hx
      have hfz := blk_frozen b1
      have q0 := b1.cell (i := 0) rfl
      have q1 := b1.cell (i := 1) rfl
      have q2 := b1.cell (i := 2) rfl
      have hx1 := hx0.trans hx
      have hz0 := hfz 0
      have hz1 := hfz 1
      have hz2 := hfz 2
      clear hfz b1
      have s1 : decide ((100000000 : Int) < steps) = false := decide_eq_false (by omega)
      have s2 : decide (steps ≤ 0) = true := decide_eq_true hb
      clear hb
      go_wp2_with fail
      exact bodyPost_ret (v := outV ([], 13, 0)) (by unfold outV; simp [results, Tryd.results26, go_sem, q0, q1, q2, BA]) rfl ⟨rfl, ((hx1.set (Nat.le_refl _) _).set (Nat.le_refl _) _).set (Nat.le_refl _) _⟩
set_option maxRecDepth 100000 in
set_option maxHeartbeats 3200000 in
theorem Run_go (at_ start : Nat) (code : ByteArray) (input : List Nat) (steps : Int) (bt ct : Nat) (A : Option Addr) (n c : Nat) (w : World)
    (h0 : w.cell? ⟨bt, 0, none⟩ = some (.int .i64 (at_ : Int))) (h1 : w.cell? ⟨bt, 1, none⟩ = some (.string code)) (hct : 1 ≤ ct) (hct2 : ct ≤ maxLen)
    (hl : Lst w A n c (u32V input)) (hA : ∀ p, A = some p → p.block < w.heap.size) (hin : ∀ x ∈ input, x < 4294967296) (hin2 : input.length ≤ 1000000) (ha : at_ + code.size ≤ 262144) (hs : start < 262144) (hb : ¬ 100000000 < steps) (hb2 : ¬ steps ≤ 0) :
    Calls Tryd.prog 26 #[.slice (some ⟨bt, 0, none⟩) 1 ct, .int .i64 (start : Int), .slice A n c, .int .i64 steps] w fun e w' => e = .returned (outV ((runS steps.toNat 0 (m0 at_ code.data.toList start input)).1, (runS steps.toNat 0 (m0 at_ code.data.toList start input)).2.1, ((runS steps.toNat 0 (m0 at_ code.data.toList start input)).2.2 : Int))) ∧ Ext w w' := by
  obtain ⟨R, hR⟩ : ∃ R, R = runS steps.toNat 0 (m0 at_ code.data.toList start input) := ⟨_, rfl⟩
  rw [← hR]
  have HSI := Lib.hid (show ((steps.toNat : Nat) : Int) = steps by omega)
  have HSl := Lib.hid (show steps.toNat ≤ 100000000 by omega)
  have s1 : decide ((100000000 : Int) < steps) = false := decide_eq_false (by omega)
  have s2 : decide (steps ≤ 0) = false := decide_eq_false (by omega)
  have HR := Lib.hid hR
  clear hb hb2 hR
  have d1 : decide ((0 : Int) ≤ (start : Int)) = true := decide_eq_true (by omega)
  have d2 : decide ((start : Int) < 262144) = true := decide_eq_true (by omega)
  have hbt := cell_lt h0
  unfold maxLen at hct2
  obtain ⟨w0, hw0⟩ : ∃ W, W = w.alloc (.cells #[.string ⟨#[]⟩, .int .i64 0, .int .i64 0] 49) := ⟨_, rfl⟩
  have hx0 : Ext w w0 := by rw [hw0]; exact (Ext.refl w).alloc _
  have HR0 : Hid (Blk w0 w.heap.size 49 [.string ⟨#[]⟩, .int .i64 0, .int .i64 0]) := by rw [hw0]; exact heap_alloc_new w _
  have e0 := hx0.cell h0
  have e1 := hx0.cell h1
  go_enter Tryd.func26, Tryd.ntmps26
  go_wp2_with fail
  rw [← hw0]
  go_loopw [9, 25] (fun f i wr => ∃ k : Nat, k ≤ 1 ∧ i = .int .i64 k ∧ f = .bool true ∧ Ext w0 wr) (fun _ i _ => 1 - (intOf i).toNat)
  case atStart => exact ⟨0, by omega, rfl, rfl, Ext.refl _⟩
  case round =>
    obtain ⟨k, hk, rfl, rfl, hx⟩ := hrel
    have g0 := hx.cell e0
    have g1 := hx.cell e1
    by_cases hk1 : k < 1
    · obtain rfl : k = 0 := by omega
      have t1 : decide ((0 : Int) ≤ (at_ : Int)) = true := decide_eq_true (by omega)
      have t2 : decide ((at_ : Int) ≤ 262144 - (code.size : Int)) = true := decide_eq_true (by omega)
      go_wp2_with fail
      go_roundw
      case rel => exact ⟨1, by omega, by go_num, rfl, hx.alloc _⟩
      case measure => simp [intOf]
    · obtain rfl : k = 1 := by omega
      have b1 := HR0.out.ext hx
      have hfz := blk_frozen b1
      have q0 := b1.cell (i := 0) rfl
      have q1 := b1.cell (i := 1) rfl
      have q2 := b1.cell (i := 2) rfl
      have hx1 := hx0.trans hx
      have hz0 := hfz 0
      have hz1 := hfz 1
      have hz2 := hfz 2
      clear hfz b1
      have hmk := make_mem
      go_wp2_with fail
      refine wp_region_grow (by kernel_rfl) (by kernel_rfl) ?_
      repeat
        first
        | (apply grow_is
           case h =>
            intro a w1 hg hs hsl
            clear hs
            try simp at hsl
            try (first | (refine Exists.elim (row_spec hsl) ?_; rintro b ⟨hv, _, hh⟩) | (refine Exists.elim (row_spec hsl.1) ?_; rintro b ⟨hv, _, hh⟩))
            try ((with_reducible refine Exists.elim (mapV_spec hsl.2.2.2) ?_); rintro bb ⟨hv2, hm2⟩)
            try ((with_reducible refine Exists.elim (aggV_spec hsl) ?_); rintro bm ⟨bb, hv3, hp3⟩)
            unfold growAt guardOk
            go_simp
            try go_bits
            try simp only [↓IntWalk.iteOmega]
            first
              | exact grow_same
              | exact is_skip
              | exact rfl)
        | (refine grow_in (Row wr memZ 47 262144 262144) (Up.row _ _ _ _ _) ?_ ?_
           · intro a w1 hg hs hsl
             clear hs
             try simp at hsl
             try (first | (refine Exists.elim (row_spec hsl) ?_; rintro b ⟨hv, _, hh⟩) | (refine Exists.elim (row_spec hsl.1) ?_; rintro b ⟨hv, _, hh⟩))
             try ((with_reducible refine Exists.elim (mapV_spec hsl.2.2.2) ?_); rintro bb ⟨hv2, hm2⟩)
             try ((with_reducible refine Exists.elim (aggV_spec hsl) ?_); rintro bm ⟨bb, hv3, hp3⟩)
             unfold growAt guardOk
             go_simp
             try go_bits
             try simp only [↓IntWalk.iteOmega]
             with_reducible exact row_new hg)
        | (refine grow_in MapV Up.mapV ?_ ?_
           · intro a w1 hg hs hsl
             clear hs
             try simp at hsl
             try (first | (refine Exists.elim (row_spec hsl) ?_; rintro b ⟨hv, _, hh⟩) | (refine Exists.elim (row_spec hsl.1) ?_; rintro b ⟨hv, _, hh⟩))
             try ((with_reducible refine Exists.elim (mapV_spec hsl.2.2.2) ?_); rintro bb ⟨hv2, hm2⟩)
             try ((with_reducible refine Exists.elim (aggV_spec hsl) ?_); rintro bm ⟨bb, hv3, hp3⟩)
             unfold growAt guardOk
             go_simp
             try go_bits
             try simp only [↓IntWalk.iteOmega]
             (with_reducible exact grow_call (Ext.refl _) (binaries_map _)))
        | (refine grow_in (AggV wr start (.slice A n c)) (Up.aggV _ _ _) ?_ ?_
           · intro a w1 hg hs hsl
             clear hs
             try simp at hsl
             try (first | (refine Exists.elim (row_spec hsl) ?_; rintro b ⟨hv, _, hh⟩) | (refine Exists.elim (row_spec hsl.1) ?_; rintro b ⟨hv, _, hh⟩))
             try ((with_reducible refine Exists.elim (mapV_spec hsl.2.2.2) ?_); rintro bb ⟨hv2, hm2⟩)
             try ((with_reducible refine Exists.elim (aggV_spec hsl) ?_); rintro bm ⟨bb, hv3, hp3⟩)
             unfold growAt guardOk
             go_simp
             try go_bits
             try simp only [↓IntWalk.iteOmega]
             (with_reducible exact aggV_new (by assumption) hh hm2))
        | (refine grow_in (BoxV wr start (.slice A n c)) (Up.boxV _ _ _) ?_ ?_
           · intro a w1 hg hs hsl
             clear hs
             try simp at hsl
             try (first | (refine Exists.elim (row_spec hsl) ?_; rintro b ⟨hv, _, hh⟩) | (refine Exists.elim (row_spec hsl.1) ?_; rintro b ⟨hv, _, hh⟩))
             try ((with_reducible refine Exists.elim (mapV_spec hsl.2.2.2) ?_); rintro bb ⟨hv2, hm2⟩)
             try ((with_reducible refine Exists.elim (aggV_spec hsl) ?_); rintro bm ⟨bb, hv3, hp3⟩)
             unfold growAt guardOk
             go_simp
             try go_bits
             try simp only [↓IntWalk.iteOmega]
             (first | exact boxV_new hg hp3 | exact ⟨Ext.refl _, hsl⟩))
      refine grow_fin ?_
      intro w1 hw1
      simp only [List.reverse_cons, List.reverse_nil, List.nil_append, List.cons_append, FinT, Is, forall_eq, List.setIfInBounds_toArray, List.set_cons_succ, List.set_cons_zero]
      intro v1 hv1 v2 hv2 v3 hv3 v4 hv4 v5 hv5
      obtain ⟨b, bm, bb, rfl, hbB, hbk, hpt⟩ := hv5
      clear hv1 hv2 hv3 hv4 hmk
      obtain ⟨V, hV⟩ : ∃ V, V = wr := ⟨_, rfl⟩
      subst hV
      obtain ⟨B, hB⟩ : ∃ B, B = V.heap.size := ⟨_, rfl⟩
      have hwB : w.heap.size < B := by rw [hB]; have := hx.size; rw [hw0] at this; simp at this; omega
      have hL0 : LibM w1 B b bm bb (m0 at_ (code.data.toList.take 0) start input) 0 false (.slice none 0 0) (.slice none 0 0) (.slice A n c) (.slice none 0 0) := by
        refine ⟨hbk, by rw [hB]; exact hbB, ⟨by rw [hB]; exact hpt.le, ⟨memZ, hpt.mem, memZ_size, fun i hi => ?_⟩, ⟨rfl, .inl ⟨rfl, rfl⟩⟩, ⟨rfl, .inl ⟨rfl, rfl⟩⟩, ⟨rfl, .inl ⟨rfl, rfl⟩⟩, ⟨A, n, c, rfl, (hl.ext (hx1.trans hw1)), fun p e => by have := hA p e; omega⟩, by simp [Value.ownBlock], by simp [Value.ownBlock], fun g e => by simp [Value.ownBlock] at e, fun k x e => by cases e⟩, hpt.map⟩
        rw [memZ_get i hi]
        show _ = some (Value.int .u32 ((memT at_ [] i : Nat) : Int))
        rw [memT_nil]
        rfl
      have HL0 := Lib.hid hL0
      have hx2 : Below B V w1 := by rw [hB]; exact hw1
      have HX2 := Lib.hid hx2
      have HB0 := Lib.hid hB
      have hp0 := hx2.cell (p := ⟨bt, 0, none⟩) (by show bt < B; omega)
      clear hL0 hbk hpt hbB hx2 hw1 hB
      go_wp2_with fail
      go_loopw [66] (fun i W => ∃ k : Nat, k ≤ 1 ∧ i = .int .i64 k ∧ LibM W B b bm bb (m0 at_ (code.data.toList.take (k * code.size)) start input) 0 false (.slice none 0 0) (.slice none 0 0) (.slice A n c) (.slice none 0 0) ∧ Below B V W) (fun i _ => 1 - (intOf i).toNat)
      case atStart => exact ⟨0, by omega, rfl, by rw [Nat.zero_mul]; exact HL0.out, HX2.out⟩
      case round =>
        obtain ⟨k2, hk2, rfl, hLk, hxk⟩ := hrel
        have hbtB : bt < B := by omega
        have f0 := (hxk.cell (p := ⟨bt, 0, none⟩) hbtB).trans g0
        have f1 := (hxk.cell (p := ⟨bt, 1, none⟩) hbtB).trans g1
        by_cases hk3 : k2 < 1
        · obtain rfl : k2 = 0 := by omega
          rw [Nat.zero_mul] at hLk
          have HLk := Lib.hid (hLk.alloc (by have := hxk.size; rw [← HB0.out] at this; exact this) (.cells #[.int .i64 (at_ : Int), .string code] 52))
          have HXk := Lib.hid (hxk.alloc (by have := hxk.size; rw [← HB0.out] at this; exact this) (.cells #[.int .i64 (at_ : Int), .string code] 52))
          have HTb : Hid (Blk (wr.alloc (.cells #[.int .i64 (at_ : Int), .string code] 52)) wr.heap.size 52 [.int .i64 (at_ : Int), .string code]) := heap_alloc_new wr _
          obtain ⟨tb, htb⟩ : ∃ tb, tb = wr.heap.size := ⟨_, rfl⟩
          have hbm : Hid (tb ≠ bm ∧ tb ≠ b) := by
            obtain ⟨arr, m1, -⟩ := hLk.2.2.1.mem
            exact ⟨fun e => by rw [← e, htb] at m1; simp at m1, fun e => by have := hLk.1.lt; omega⟩
          clear hLk hxk
          go_wp2_with fail
          rw [← htb] at HTb ⊢
          obtain ⟨W0, hW0⟩ : ∃ W, W = wr.alloc (.cells #[.int .i64 (at_ : Int), .string code] 52) := ⟨_, rfl⟩
          rw [← hW0] at HLk HXk HTb ⊢
          clear hW0 htb f0 f1
          have HW0 := Lib.hid (show Below B V W0 from HXk.out)
          have HH : Hid (0 ≤ code.size) := Nat.zero_le _
          go_loopw [73] (fun i W => ∃ j : Nat, j ≤ code.size ∧ i = .int .i64 j ∧ LibM W B b bm bb (m0 at_ (code.data.toList.take j) start input) 0 false (.slice none 0 0) (.slice none 0 0) (.slice A n c) (.slice none 0 0) ∧ Below B V W ∧ Blk W tb 52 [.int .i64 (at_ : Int), .string code]) (fun i _ => code.size - (intOf i).toNat)
          case atStart => exact ⟨0, by omega, rfl, HLk.out, HXk.out, HTb.out⟩
          case round =>
            obtain ⟨j, hj, rfl, hLj, hxj, hbj⟩ := hrel
            by_cases hjz : j < code.size
            · obtain ⟨⟨c0, c1, c2, c3, c4, c5, c6, c7, c8, c9⟩, -, -⟩ := ten hLj.1
              obtain ⟨m1, m2⟩ := hLj.2.2.1.mem.cell (i := at_ + j) (by omega)
              have t0 := hbj.cell (i := 0) rfl
              have t1 := hbj.cell (i := 1) rfl
              have hsz : code.data.toList.length = code.size := by simp
              have hstep := hLj.mem_set (at_ + j) (code.data.toList[j]).toNat
              rw [m0_step at_ code.data.toList start input j (by omega)] at hstep
              have hcj : (code.data.toList[j]).toNat = code[j].toNat := rfl
              rw [hcj] at hstep
              have HS := Lib.hid hstep
              have HXJ := Lib.hid hxj
              have HBJ := Lib.hid hbj
              have HJ := Lib.hid hLj
              have hat : IntKind.i64.wrap ((at_ : Int) + (j : Int)) = (at_ : Int) + (j : Int) := IntWalk.i64_in _ (by omega)
              have hat2 : ((at_ : Int) + (j : Int)).toNat = at_ + j := by omega
              have hat3 : 0 ≤ (at_ : Int) + (j : Int) := by omega
              have hat4 : (at_ : Int) + (j : Int) < 262144 := by omega
              have hcm : (code[j].toNat : Int) % 4294967296 = (code[j].toNat : Int) := by have := code[j].toNat_lt; omega
              clear hstep hcj hLj hxj hbj hsz
              go_wp2_with fail
              go_region
              go_wp2_with fail
              go_roundw
              case rel =>
                exact ⟨j + 1, by omega, by go_num, HS.out.drew, (HXJ.out.setCell HJ.out.2.2.1.hbm _).drew, HBJ.out.set_ne hbm.out.1⟩
              case measure => simp [intOf]; omega
            · obtain rfl : j = code.size := by omega
              go_wp2_with fail
              go_roundw
              case rel => exact ⟨1, by omega, by go_num, by rw [Nat.one_mul]; exact hLj, hxj⟩
              case measure => simp [intOf]
        · obtain rfl : k2 = 1 := by omega
          rw [Nat.one_mul, List.take_of_length_le (by simp)] at hLk
          have hok : (m0 at_ code.data.toList start input).Ok := ⟨memT_lt at_ _, (by show start < 4294967296; omega), (fun v hv => (by cases hv)), (fun v hv => (by cases hv)), hin, Nat.zero_le _, Nat.zero_le _, hin2, (fun h => (by cases h))⟩
          have hrun := run_any B b bm bb _ _ _ _ _ wr hLk hok rfl (by have := hxk.size; rw [← HB0.out] at this; exact this) steps.toNat HSl.out
          rw [HSI.out, ← HR.out] at hrun
          have HRun := Lib.hid hrun
          have HXk := Lib.hid hxk
          clear hrun hok hLk hxk f0 f1
          go_wp2_with fail
          refine HRun.out.mono ?_
          rintro e w3 ⟨rfl, M', st, dv, cv, iv, ov, h3, ho3, hb3⟩
          have hx3 := HXk.out.trans hb3
          obtain ⟨⟨c0, c1, c2, c3, c4, c5, c6, c7, c8, c9⟩, -, -⟩ := ten h3.1
          have hcv := conv_bytes (w := w3.drew) h3.drew.2.2.1.out rfl
          rw [ho3] at hcv
          have b2 : Blk w3 w.heap.size 49 [.string ⟨#[]⟩, .int .i64 0, .int .i64 0] := by
            have h := HR0.out.ext hx
            unfold Blk at h ⊢
            rw [hx3.block _ hwB]
            exact h
          have p0 := b2.cell (i := 0) rfl
          have p1 := b2.cell (i := 1) rfl
          have p2 := b2.cell (i := 2) rfl
          have y0 := blk_frozen b2 0
          have y1 := blk_frozen b2 1
          have y2 := blk_frozen b2 2
          have HX3 := Lib.hid hx3
          clear h3 ho3 hb3 hx3 b2
          go_wp2_with fail
          go_region
          go_wp2_with fail
          exact bodyPost_ret (v := outV (R.1, R.2.1, (R.2.2 : Int))) (by unfold outV; simp [results, Tryd.results26, go_sem, p0, p1, p2]) rfl ⟨rfl, ((((hx1.trans (show Ext V w3 by have h := HX3.out; rw [HB0.out] at h; exact h)).set (Nat.le_refl _) _).set (Nat.le_refl _) _).set (Nat.le_refl _) _).drew⟩
/-- machine.Run over one text -/
theorem Run_any (at_ start : Nat) (code : ByteArray) (input : List Nat) (steps : Int) (bt ct : Nat) (A : Option Addr) (n c : Nat) (w : World)
    (h0 : w.cell? ⟨bt, 0, none⟩ = some (.int .i64 (at_ : Int))) (h1 : w.cell? ⟨bt, 1, none⟩ = some (.string code)) (hct : 1 ≤ ct) (hct2 : ct ≤ maxLen)
    (hl : Lst w A n c (u32V input)) (hA : ∀ p, A = some p → p.block < w.heap.size) (hin : ∀ x ∈ input, x < 4294967296) (hin2 : input.length ≤ 1000000) (ha : at_ + code.size ≤ 262144) (hs : start < 262144) :
    Calls Tryd.prog 26 #[.slice (some ⟨bt, 0, none⟩) 1 ct, .int .i64 (start : Int), .slice A n c, .int .i64 steps] w fun e w' => e = .returned (outV (runO at_ code.data.toList start input steps)) ∧ Ext w w' := by
  unfold runO
  by_cases hb : 100000000 < steps
  · rw [if_pos hb]; exact Run_big at_ start code input steps bt ct A n c w h0 h1 hct hct2 ha hs hb
  rw [if_neg hb]
  by_cases hb2 : steps ≤ 0
  · rw [if_pos hb2]; exact Run_no at_ start code input steps bt ct A n c w h0 h1 hct hct2 ha hs hb2
  rw [if_neg hb2]
  exact Run_go at_ start code input steps bt ct A n c w h0 h1 hct hct2 hl hA hin hin2 ha hs hb hb2
end Go.Proofs.YtimegcnpembhkaaDoor
