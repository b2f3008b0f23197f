/- What the program's own functions of the package 'fixed' return: sizes, signs, quotients. -/
import Derived.Test.YtfhadnhpognefaaGreatDoorProg
import Derived.Test.YtfhadnhpognefaaGreatDoorFxDiv
import Derived.Test.YtfhadnhpognefaaGreatDoorShelf
import Derived.WalkKit
import Derived.RegionTactic
import Derived.BigQuiet
import Derived.BigRegion
import Derived.Deep.QuietTactic
import Derived.Deep.RegionWith
import Derived.Deep.RegionHeld3
import Derived.Defers
import Derived.Recover
import Derived.Outline
import Derived.WalkLawsBesides
import Derived.WalkSpells
import Derived.WalkSmall
import Derived.Laws.Pointers
import Derived.Lib.Hide
namespace Go.Proofs.YtfhadnhpognefaaGreatDoor.Fx
open Go Go.RowKit

theorem caught_idle (p q : Addr) (w : World) :
    CallsD Tryz.prog 28 #[.pointer (some p), .pointer (some q)] .returning w fun e u' w' => e = .returned (.tuple #[]) ∧ u' = .returning ∧ w' = w := by
  refine callsD_of_wpS Tryz.func28 rfl fun c₀ cs hu => ?_
  apply wpS_seq
  apply wpS_region
  simp [wpOpsS, go_sem, recoverD, hu, Tryz.ntmps28, Exit.thenS]
  apply wpS_seq
  apply wpS_region
  simp [wpOpsS, go_sem, Exit.thenS, Act.put]
  refine wpS_cond (t := false) (by simp [Act.eval, Array.replicate]) ?_
  simp only [Bool.false_eq_true, if_false]
  refine wpS_of_wp (wp_skip ?_)
  cases c₀
  simp_all [bodyPostS, results, Tryz.results28]

theorem caught_panicking (p q : Addr) (x : Int) (y : Int) (w : World) (hp : w.cell? p = some (.int .i64 x)) (hpz : w.frozen? p = false) (hq : w.cell? q = some (.int .i64 y)) (hqz : w.frozen? q = false) (hne : p ≠ q) :
    CallsD Tryz.prog 28 #[.pointer (some p), .pointer (some q)] (.panicking [{ v := .iface 22 (.int .i64 10), recovered := false }]) w fun e u' w' =>
      e = .returned (.tuple #[]) ∧ u' = .panicking [{ v := .iface 22 (.int .i64 10), recovered := true }] ∧ w' = ((w.setCell p (.int .i64 0)).setCell q (.int .i64 10)).drew := by
  have hta : ∀ W, (Instr.typeAssert (.iface 22 (.int .i64 10)) 20 22 false).run Tryz.prog W = .ok (.int .i64 10) W := fun _ => by kernel_rfl
  have hq1 : ∀ v, (w.setCell p v).cell? q = some (.int .i64 y) := fun v => (World.cell?_setCell_other w p q v hne).trans hq
  refine callsD_of_wpS Tryz.func28 rfl fun c₀ cs hu => ?_
  apply wpS_seq
  apply wpS_region
  simp [wpOpsS, go_sem, recoverD, hu, Tryz.ntmps28, Exit.thenS]
  apply wpS_seq
  apply wpS_region
  simp [wpOpsS, go_sem, Exit.thenS, Act.put]
  refine wpS_cond (t := true) (by simp [Act.eval, Array.replicate]) ?_
  simp only [if_true]
  refine wpS_of_wp ?_
  simp only [Array.replicate_succ, Array.replicate_zero, List.push_toArray, List.nil_append, List.cons_append, List.setIfInBounds_toArray, List.set_cons_succ, List.set_cons_zero, List.append_toArray]
  go_region
  all_goals simp [bodyPostS, results, Tryz.results28]

theorem size_any (a : Int) (h0 : -9223372036854775808 ≤ a) (h1 : a ≤ 9223372036854775807) (w : World) :
    Calls Tryz.prog 19 #[.int .i64 a] w fun e w' => e = .returned (.int .u64 (a.natAbs : Int)) ∧ w = w' := by
  by_cases h : a < 0
  · have e : IntKind.u64.wrap (-IntKind.u64.wrap a) = (a.natAbs : Int) := by rw [IntKind.wrap_u64, IntKind.wrap_u64]; omega
    have E := Lib.hid e
    clear e h0 h1
    go_enter Tryz.func19, Tryz.ntmps19
    go_wp2
    go_ret
    exact ⟨by rw [E.out]; rfl, rfl⟩
  · have e : IntKind.u64.wrap a = (a.natAbs : Int) := by rw [IntKind.wrap_u64]; omega
    have E := Lib.hid e
    clear e h0 h1
    go_enter Tryz.func19, Tryz.ntmps19
    go_wp2
    go_ret
    exact ⟨by rw [E.out]; rfl, rfl⟩

theorem up_floor (r d : Int) (neg : Bool) (w : World) :
    Calls Tryz.prog 17 #[.int .u64 r, .int .u64 d, .bool neg] w fun e w' => e = .returned (.bool (neg && decide (0 < r))) ∧ w = w' := by
  cases neg
  · go_enter Tryz.func17, Tryz.ntmps17
    go_wp2
    go_ret
    exact ⟨rfl, rfl⟩
  · go_enter Tryz.func17, Tryz.ntmps17
    go_wp2
    go_ret
    exact ⟨rfl, rfl⟩
theorem up_round (r d : Int) (neg : Bool) (h0 : 0 ≤ r) (h1 : r < d) (h2 : d < 18446744073709551616) (w : World) :
    Calls Tryz.prog 16 #[.int .u64 r, .int .u64 d, .bool neg] w fun e w' => e = .returned (.bool (decide (d ≤ 2 * r))) ∧ w = w' := by
  have E := Lib.hid (show IntKind.u64.wrap (d - r) = d - r by rw [IntKind.wrap_u64]; omega)
  have E2 := Lib.hid (show decide (r ≥ d - r) = decide (d ≤ 2 * r) by rw [decide_eq_decide]; omega)
  clear h0 h1 h2
  go_enter Tryz.func16, Tryz.ntmps16
  go_wp2
  go_ret
  exact ⟨by rw [E.out, ← E2.out]; rfl, rfl⟩

/-- The panic that 'it runs over' is told by. -/
def flowPanic : List PanicEntry := [{ v := .iface 22 (.int .i64 10), recovered := false }]
theorem signed_panics (n : Int) (neg : Bool) (_h0 : 0 ≤ n) (h : if neg = true then 9223372036854775808 < n else 9223372036854775807 < n) (w : World) :
    Calls Tryz.prog 31 #[.int .u64 n, .bool neg] w fun e w' => e = .panicked flowPanic ∧ w = w' := by
  cases neg
  · simp only [Bool.false_eq_true, if_false] at h
    go_enter Tryz.func31, Tryz.ntmps31
    go_wp2
    exact ⟨rfl, rfl, rfl⟩
  · simp only [if_true] at h
    go_enter Tryz.func31, Tryz.ntmps31
    go_wp2
    exact ⟨rfl, rfl, rfl⟩
theorem divide_panics (hi lo d : Int) (h : d ≤ hi) (w : World) :
    Calls Tryz.prog 42 #[.agg #[.int .u64 hi, .int .u64 lo], .int .u64 d] w fun e w' => e = .panicked flowPanic ∧ Below w.heap.size w w' := by
  go_enter Tryz.func42, Tryz.ntmps42
  go_wp2
  exact ⟨rfl, rfl, (Below.refl _ _).alloc (Nat.le_refl _) _⟩
theorem divide_tells (hi lo d : Nat) (h : hi < d) (hd : d < 18446744073709551616) (hl : lo < 18446744073709551616) (w : World) :
    Calls Tryz.prog 42 #[.agg #[.int .u64 hi, .int .u64 lo], .int .u64 d] w fun e w' => e = .returned (.tuple #[.int .u64 (((hi * 18446744073709551616 + lo) / d : Nat) : Int), .int .u64 (((hi * 18446744073709551616 + lo) % d : Nat) : Int)]) ∧ Below w.heap.size w w' := by
  obtain ⟨k, hk⟩ := Div64_ev hi lo d (by omega) (by omega) (by omega) (by omega) (by omega)
  have hk2 : PRef.bits_Div64.f k hi lo d = some ((((hi * 18446744073709551616 + lo) / d : Nat) : Int), (((hi * 18446744073709551616 + lo) % d : Nat) : Int)) := by
    rw [hk]; congr 1
  have HC := Lib.hid (fun W => PRef.bits_Div64.calls k hi lo d _ _ W hk2)
  have hh : ((hi : Int) < d) := by omega
  clear hk hk2 h hd hl
  generalize (hi * 18446744073709551616 + lo) / d = q at *
  generalize (hi * 18446744073709551616 + lo) % d = r at *
  go_enter Tryz.func42, Tryz.ntmps42
  go_wp2_with fail
  refine (HC.out _).mono ?_; rintro e w' ⟨rfl, ⟨nd, rfl⟩⟩
  go_wp2_with fail
  go_ret2
  exact ⟨rfl, below_drewN ((Below.refl _ _).alloc (Nat.le_refl _) _) _⟩
theorem signed_tells (n : Nat) (neg : Bool) (h : if neg = true then n ≤ 9223372036854775808 else n ≤ 9223372036854775807) (w : World) :
    Calls Tryz.prog 31 #[.int .u64 n, .bool neg] w fun e w' => e = .returned (.int .i64 (withSign neg n)) ∧ w = w' := by
  cases neg
  · simp only [Bool.false_eq_true, if_false] at h
    have h2 : (n : Int) ≤ 9223372036854775807 := by omega
    clear h
    go_enter Tryz.func31, Tryz.ntmps31
    go_wp2
    go_ret
    exact ⟨rfl, rfl⟩
  · simp only [if_true] at h
    have E := Lib.hid (show wrap64 (-wrap64 (n : Int)) = withSign true n by
      unfold withSign wrap64; simp; omega)
    have h2 : (n : Int) ≤ 9223372036854775808 := by omega
    clear h
    go_enter Tryz.func31, Tryz.ntmps31
    go_wp2
    go_ret
    exact ⟨by rw [← E.out]; rfl, rfl⟩

/-- What a world that 'quotient' has come to keeps: its two results, at nought. -/
structure Fr (w W : World) : Prop where
  n : W.cell? { block := w.heap.size, off := 0 } = some (.int .i64 0)
  nz : W.frozen? { block := w.heap.size, off := 0 } = false
  e : W.cell? { block := w.heap.size + 1, off := 0 } = some (.int .i64 0)
  ez : W.frozen? { block := w.heap.size + 1, off := 0 } = false
  size : w.heap.size + 2 ≤ W.heap.size
  below : Below w.heap.size w W
theorem Fr.first (w : World) : Fr w ((w.alloc (Obj.cells #[Value.int IntKind.i64 0] 2)).alloc (Obj.cells #[Value.int IntKind.i64 0] 22)) := by
  refine ⟨by simp [go_sem], by simp [go_sem], by simp [go_sem], by simp [go_sem], by simp, ?_⟩
  exact ((Below.refl _ _).alloc (Nat.le_refl _) _).alloc (by simp) _
theorem Fr.step {w W W' : World} (h : Fr w W) (hb : Below W.heap.size W W') : Fr w W' := by
  have hs := h.size
  have l1 : ({ block := w.heap.size, off := 0 } : Addr).block < W.heap.size := by simp; omega
  have l2 : ({ block := w.heap.size + 1, off := 0 } : Addr).block < W.heap.size := by simp; omega
  refine ⟨(hb.cell l1).trans h.n, (hb.frozen l1).trans h.nz, (hb.cell l2).trans h.e, (hb.frozen l2).trans h.ez, ?_, h.below.trans (hb.mono (by omega))⟩
  have := hb.size
  omega
theorem quotient_caught (a : Act) (w W : World) (hd : a.defers = [{ target := Target.fn (Fn.func 28) #[], args := #[Value.pointer (some { block := w.heap.size, off := 0 }), Value.pointer (some { block := w.heap.size + 1, off := 0 })] }])
    (h8 : a.tmps[8]?.getD undef = Value.pointer (some { block := w.heap.size, off := 0 })) (h9 : a.tmps[9]?.getD undef = Value.pointer (some { block := w.heap.size + 1, off := 0 })) (hf : Fr w W) :
    bodyPostD Tryz.prog Tryz.f15 (fun e w' => e = Ending.returned (Value.tuple #[Value.int IntKind.i64 0, Value.int IntKind.i64 10]) ∧ Below w.heap.size w w') (Exit.panic flowPanic) a W := by
  have hc := caught_panicking { block := w.heap.size, off := 0 } { block := w.heap.size + 1, off := 0 } 0 0 W hf.n hf.nz hf.e hf.ez (by simp)
  simp only [bodyPostD, hd]
  refine leaves_cons (f := 28) (args := #[Value.pointer (some { block := w.heap.size, off := 0 }), Value.pointer (some { block := w.heap.size + 1, off := 0 })]) (by simp) (by simp [go_sem]) ?_
  refine hc.mono ?_
  rintro e u' w' ⟨rfl, rfl, rfl⟩
  have c1 : (((W.setCell { block := w.heap.size, off := 0 } (Value.int IntKind.i64 0)).setCell { block := w.heap.size + 1, off := 0 } (Value.int IntKind.i64 10)).drew).cell? { block := w.heap.size, off := 0 } = some (.int .i64 0) :=
    (World.cell?_setCell_other _ { block := w.heap.size + 1, off := 0 } { block := w.heap.size, off := 0 } _ (by simp)).trans (World.cell?_setCell_same W _ _ hf.n)
  have c2 : (((W.setCell { block := w.heap.size, off := 0 } (Value.int IntKind.i64 0)).setCell { block := w.heap.size + 1, off := 0 } (Value.int IntKind.i64 10)).drew).cell? { block := w.heap.size + 1, off := 0 } = some (.int .i64 10) :=
    World.cell?_setCell_same _ _ _ ((World.cell?_setCell_other _ _ _ _ (by simp)).trans hf.e)
  have hbF := ((hf.below.setCell (p := { block := w.heap.size, off := 0 }) (Nat.le_refl _) (Value.int IntKind.i64 0)).setCell (p := { block := w.heap.size + 1, off := 0 }) (Nat.le_succ _) (Value.int IntKind.i64 10)).drew
  generalize (((W.setCell { block := w.heap.size, off := 0 } (Value.int IntKind.i64 0)).setCell { block := w.heap.size + 1, off := 0 } (Value.int IntKind.i64 10)).drew) = G at c1 c2 hbF ⊢
  simp [Leaves, settle, results, Tryz.results15, go_sem, h8, h9, c1, c2]
  exact hbF
theorem quotient_done (a : Act) (w W : World) (x y : Int) (hd : a.defers = [{ target := Target.fn (Fn.func 28) #[], args := #[Value.pointer (some { block := w.heap.size, off := 0 }), Value.pointer (some { block := w.heap.size + 1, off := 0 })] }])
    (h8 : a.tmps[8]?.getD undef = Value.pointer (some { block := w.heap.size, off := 0 })) (h9 : a.tmps[9]?.getD undef = Value.pointer (some { block := w.heap.size + 1, off := 0 }))
    (c1 : W.cell? { block := w.heap.size, off := 0 } = some (.int .i64 x)) (c2 : W.cell? { block := w.heap.size + 1, off := 0 } = some (.int .i64 y)) (hb : Below w.heap.size w W) :
    bodyPostD Tryz.prog Tryz.f15 (fun e w' => e = Ending.returned (Value.tuple #[Value.int IntKind.i64 x, Value.int IntKind.i64 y]) ∧ Below w.heap.size w w') Exit.ret a W := by
  simp only [bodyPostD, hd]
  refine leaves_cons (f := 28) (args := #[Value.pointer (some { block := w.heap.size, off := 0 }), Value.pointer (some { block := w.heap.size + 1, off := 0 })]) (by simp) (by simp [go_sem]) ?_
  refine (caught_idle { block := w.heap.size, off := 0 } { block := w.heap.size + 1, off := 0 } W).mono ?_
  rintro e u' w' ⟨rfl, rfl, rfl⟩
  simp [Leaves, settle, results, Tryz.results15, go_sem, h8, h9, c1, c2]
  exact hb
theorem quotient_t (a b c : Int) (A B C : Nat) (F : Nat) (w : World) (hi lo : Nat)
    (SA : Hid (∀ W, Calls Tryz.prog 19 #[.int .i64 a] W fun e w' => e = .returned (.int .u64 (A : Int)) ∧ W = w'))
    (SB : Hid (∀ W, Calls Tryz.prog 19 #[.int .i64 b] W fun e w' => e = .returned (.int .u64 (B : Int)) ∧ W = w'))
    (SC : Hid (∀ W, Calls Tryz.prog 19 #[.int .i64 c] W fun e w' => e = .returned (.int .u64 (C : Int)) ∧ W = w'))
    (M : Hid (∀ W, Calls Tryz.prog 41 #[.int .u64 A, .int .u64 B] W fun e w' => e = .returned (.tuple #[.int .u64 hi, .int .u64 lo]) ∧ W = w'))
    (DV : Hid (∀ W, Calls Tryz.prog 42 #[.agg #[.int .u64 hi, .int .u64 lo], .int .u64 C] W fun e w' => e = .panicked flowPanic ∧ Below W.heap.size W w'))
    (HC : (c == 0) = false) :
    Calls Tryz.prog 15 #[.int .i64 a, .int .i64 b, .int .i64 c, .func (.func F) #[] #[]] w fun e w' => e = .returned (.tuple #[.int .i64 0, .int .i64 10]) ∧ Below w.heap.size w w' := by
  go_enter_defers Tryz.func15, Tryz.ntmps15
  go_wp2_with fail
  refine (SA.out _).mono ?_; rintro e w' ⟨rfl, rfl⟩
  go_wp2_with fail
  refine (SB.out _).mono ?_; rintro e w' ⟨rfl, rfl⟩
  go_wp2_with fail
  refine (M.out _).mono ?_; rintro e w' ⟨rfl, rfl⟩
  go_wp2_with fail
  refine wp_region_any (by kernel_rfl) ?_
  change wpAny _ _ _ _ _ _ _ (World.drew _)
  refine wpAny_ready (rs := [0, 1]) (by kernel_rfl) (by simp) ?_
  refine AllReady.cons rfl (fun K hK => ?_) ?_
  · go_simp
    refine hK _ _ ?_; clear hK K
    refine wpAny_ready (rs := [1]) (by kernel_rfl) (by simp) ?_
    refine AllReady.cons rfl (fun K hK => ?_) AllReady.nil
    go_simp
    refine hK _ _ ?_; clear hK K
    refine wpAny_ready (rs := [2]) (by kernel_rfl) (by simp) ?_
    refine AllReady.cons rfl (fun K hK => ?_) AllReady.nil
    go_simp
    refine (SC.out _).mono ?_; rintro e w' ⟨rfl, rfl⟩
    refine hK _ _ ?_; clear hK K
    refine wpAny_ready (rs := [3]) (by kernel_rfl) (by simp) ?_
    refine AllReady.cons rfl (fun K hK => ?_) AllReady.nil
    go_simp
    refine (DV.out _).mono ?_; rintro e w' ⟨rfl, hbel⟩
    exact quotient_caught _ w w' rfl rfl rfl (((Fr.first w).step (((Below.refl _ _).alloc (Nat.le_refl _) (Obj.cells #[Value.int IntKind.u64 hi, Value.int IntKind.u64 lo] 72)).drew)).step hbel)
  refine AllReady.cons rfl (fun K hK => ?_) AllReady.nil
  go_simp
  refine hK _ _ ?_; clear hK K
  refine wpAny_ready (rs := [0, 2]) (by kernel_rfl) (by simp) ?_
  refine AllReady.cons rfl (fun K hK => ?_) ?_
  · go_simp
    refine hK _ _ ?_; clear hK K
    refine wpAny_ready (rs := [2]) (by kernel_rfl) (by simp) ?_
    refine AllReady.cons rfl (fun K hK => ?_) AllReady.nil
    go_simp
    refine (SC.out _).mono ?_; rintro e w' ⟨rfl, rfl⟩
    refine hK _ _ ?_; clear hK K
    refine wpAny_ready (rs := [3]) (by kernel_rfl) (by simp) ?_
    refine AllReady.cons rfl (fun K hK => ?_) AllReady.nil
    go_simp
    refine (DV.out _).mono ?_; rintro e w' ⟨rfl, hbel⟩
    exact quotient_caught _ w w' rfl rfl rfl (((Fr.first w).step (((Below.refl _ _).alloc (Nat.le_refl _) (Obj.cells #[Value.int IntKind.u64 hi, Value.int IntKind.u64 lo] 72)).drew)).step hbel)
  · refine AllReady.cons rfl (fun K hK => ?_) AllReady.nil
    go_simp
    refine (SC.out _).mono ?_; rintro e w' ⟨rfl, rfl⟩
    refine hK _ _ ?_; clear hK K
    refine wpAny_ready (rs := [0]) (by kernel_rfl) (by simp) ?_
    refine AllReady.cons rfl (fun K hK => ?_) AllReady.nil
    go_simp
    refine hK _ _ ?_; clear hK K
    refine wpAny_ready (rs := [3]) (by kernel_rfl) (by simp) ?_
    refine AllReady.cons rfl (fun K hK => ?_) AllReady.nil
    go_simp
    refine (DV.out _).mono ?_; rintro e w' ⟨rfl, hbel⟩
    exact quotient_caught _ w w' rfl rfl rfl (((Fr.first w).step (((Below.refl _ _).alloc (Nat.le_refl _) (Obj.cells #[Value.int IntKind.u64 hi, Value.int IntKind.u64 lo] 72)).drew)).step hbel)

set_option maxHeartbeats 2000000 in
theorem quotient_floor (a b c : Int) (A B C : Nat) (w : World) (hi lo : Nat) (q r : Nat) (up : Bool) (x y : Int)
    (SA : Hid (∀ W, Calls Tryz.prog 19 #[.int .i64 a] W fun e w' => e = .returned (.int .u64 (A : Int)) ∧ W = w'))
    (SB : Hid (∀ W, Calls Tryz.prog 19 #[.int .i64 b] W fun e w' => e = .returned (.int .u64 (B : Int)) ∧ W = w'))
    (SC : Hid (∀ W, Calls Tryz.prog 19 #[.int .i64 c] W fun e w' => e = .returned (.int .u64 (C : Int)) ∧ W = w'))
    (M : Hid (∀ W, Calls Tryz.prog 41 #[.int .u64 A, .int .u64 B] W fun e w' => e = .returned (.tuple #[.int .u64 hi, .int .u64 lo]) ∧ W = w'))
    (DV : Hid (∀ W, Calls Tryz.prog 42 #[.agg #[.int .u64 hi, .int .u64 lo], .int .u64 C] W fun e w' => e = .returned (.tuple #[.int .u64 q, .int .u64 r]) ∧ Below W.heap.size W w'))
    (UP : Hid (∀ W, Calls Tryz.prog 17 #[.int .u64 r, .int .u64 C, .bool (!(!decide (a < 0) == decide (b < 0)) == decide (c < 0))] W fun e w' => e = .returned (.bool up) ∧ W = w'))
    (HQ : Hid (up = true → (q : Int) = 18446744073709551615 → x = 0 ∧ y = 10))
    (S0 : Hid (up = false → ∀ W, Calls Tryz.prog 31 #[.int .u64 q, .bool (!(!decide (a < 0) == decide (b < 0)) == decide (c < 0))] W fun e w' => (e = .returned (.int .i64 x) ∧ y = 0 ∨ e = .panicked flowPanic ∧ x = 0 ∧ y = 10) ∧ W = w'))
    (S1 : Hid (up = true → (q : Int) ≠ 18446744073709551615 → ∀ W, Calls Tryz.prog 31 #[.int .u64 (IntKind.u64.wrap (q + 1)), .bool (!(!decide (a < 0) == decide (b < 0)) == decide (c < 0))] W fun e w' => (e = .returned (.int .i64 x) ∧ y = 0 ∨ e = .panicked flowPanic ∧ x = 0 ∧ y = 10) ∧ W = w'))
    (HC : (c == 0) = false) :
    Calls Tryz.prog 15 #[.int .i64 a, .int .i64 b, .int .i64 c, .func (.func 17) #[] #[]] w fun e w' => e = .returned (.tuple #[.int .i64 x, .int .i64 y]) ∧ Below w.heap.size w w' := by
  go_enter_defers Tryz.func15, Tryz.ntmps15
  go_wp2_with fail
  refine (SA.out _).mono ?_; rintro e w' ⟨rfl, rfl⟩
  go_wp2_with fail
  refine (SB.out _).mono ?_; rintro e w' ⟨rfl, rfl⟩
  go_wp2_with fail
  refine (M.out _).mono ?_; rintro e w' ⟨rfl, rfl⟩
  go_wp2_with fail
  refine wp_region_noPanic ?_
  go_region_with (first | (go_at_call 19; refine (SC.out _).mono ?_; rintro e w' ⟨rfl, rfl⟩) | (go_at_call 42; refine (DV.out _).mono ?_; rintro e w' ⟨rfl, hbel⟩))
  all_goals refine NoPanic.normal ?_
  all_goals
    have hfr : Fr w w' := (((Fr.first w).step (((Below.refl _ _).alloc (Nat.le_refl _) (Obj.cells #[Value.int IntKind.u64 hi, Value.int IntKind.u64 lo] 72)).drew)).step hbel)
    clear hbel
    go_wp2_with fail
    refine (SC.out _).mono ?_; rintro e w2 ⟨rfl, rfl⟩
    go_wp2_with fail
    refine (UP.out _).mono ?_; rintro e w2 ⟨rfl, rfl⟩
  all_goals
    have hn := hfr.n
    have hnz := hfr.nz
    have he := hfr.e
    have hez := hfr.ez
    have HF : Hid (Fr w w') := hfr
    clear hfr
    go_wp2_with fail
  all_goals first
    | (have hu : up = true := by assumption
       have hq : ((q : Int) == 18446744073709551615) = true := by assumption
       obtain ⟨rfl, rfl⟩ := HQ.out hu (by simpa using hq)
       exact quotient_caught _ w w' rfl rfl rfl HF.out)
    | (go_at_call 31
       have hu : up = true := by assumption
       have hq : ((q : Int) == 18446744073709551615) = false := by assumption
       refine (S1.out hu (by simpa using hq) _).mono ?_
       rintro e w2 ⟨h | h, rfl⟩
       · obtain ⟨rfl, rfl⟩ := h
         go_wp2_with fail
         exact quotient_done _ w _ x 0 rfl rfl rfl ((World.cell?_setCell_other _ _ _ _ (by simp)).trans (World.cell?_setCell_same _ _ _ hn)) (World.cell?_setCell_same _ _ _ ((World.cell?_setCell_other _ _ _ _ (by simp)).trans he)) ((HF.out.below.setCell (Nat.le_refl _) _).setCell (Nat.le_succ _) _)
       · obtain ⟨rfl, rfl, rfl⟩ := h
         exact quotient_caught _ w w' rfl rfl rfl HF.out)
    | (go_at_call 31
       have hu : up = false := by assumption
       refine (S0.out hu _).mono ?_
       rintro e w2 ⟨h | h, rfl⟩
       · obtain ⟨rfl, rfl⟩ := h
         go_wp2_with fail
         exact quotient_done _ w _ x 0 rfl rfl rfl ((World.cell?_setCell_other _ _ _ _ (by simp)).trans (World.cell?_setCell_same _ _ _ hn)) (World.cell?_setCell_same _ _ _ ((World.cell?_setCell_other _ _ _ _ (by simp)).trans he)) ((HF.out.below.setCell (Nat.le_refl _) _).setCell (Nat.le_succ _) _)
       · obtain ⟨rfl, rfl, rfl⟩ := h
         exact quotient_caught _ w w' rfl rfl rfl HF.out)
set_option maxHeartbeats 2000000 in
theorem quotient_round (a b c : Int) (A B C : Nat) (w : World) (hi lo : Nat) (q r : Nat) (up : Bool) (x y : Int)
    (SA : Hid (∀ W, Calls Tryz.prog 19 #[.int .i64 a] W fun e w' => e = .returned (.int .u64 (A : Int)) ∧ W = w'))
    (SB : Hid (∀ W, Calls Tryz.prog 19 #[.int .i64 b] W fun e w' => e = .returned (.int .u64 (B : Int)) ∧ W = w'))
    (SC : Hid (∀ W, Calls Tryz.prog 19 #[.int .i64 c] W fun e w' => e = .returned (.int .u64 (C : Int)) ∧ W = w'))
    (M : Hid (∀ W, Calls Tryz.prog 41 #[.int .u64 A, .int .u64 B] W fun e w' => e = .returned (.tuple #[.int .u64 hi, .int .u64 lo]) ∧ W = w'))
    (DV : Hid (∀ W, Calls Tryz.prog 42 #[.agg #[.int .u64 hi, .int .u64 lo], .int .u64 C] W fun e w' => e = .returned (.tuple #[.int .u64 q, .int .u64 r]) ∧ Below W.heap.size W w'))
    (UP : Hid (∀ W, Calls Tryz.prog 16 #[.int .u64 r, .int .u64 C, .bool (!(!decide (a < 0) == decide (b < 0)) == decide (c < 0))] W fun e w' => e = .returned (.bool up) ∧ W = w'))
    (HQ : Hid (up = true → (q : Int) = 18446744073709551615 → x = 0 ∧ y = 10))
    (S0 : Hid (up = false → ∀ W, Calls Tryz.prog 31 #[.int .u64 q, .bool (!(!decide (a < 0) == decide (b < 0)) == decide (c < 0))] W fun e w' => (e = .returned (.int .i64 x) ∧ y = 0 ∨ e = .panicked flowPanic ∧ x = 0 ∧ y = 10) ∧ W = w'))
    (S1 : Hid (up = true → (q : Int) ≠ 18446744073709551615 → ∀ W, Calls Tryz.prog 31 #[.int .u64 (IntKind.u64.wrap (q + 1)), .bool (!(!decide (a < 0) == decide (b < 0)) == decide (c < 0))] W fun e w' => (e = .returned (.int .i64 x) ∧ y = 0 ∨ e = .panicked flowPanic ∧ x = 0 ∧ y = 10) ∧ W = w'))
    (HC : (c == 0) = false) :
    Calls Tryz.prog 15 #[.int .i64 a, .int .i64 b, .int .i64 c, .func (.func 16) #[] #[]] w fun e w' => e = .returned (.tuple #[.int .i64 x, .int .i64 y]) ∧ Below w.heap.size w w' := by
  go_enter_defers Tryz.func15, Tryz.ntmps15
  go_wp2_with fail
  refine (SA.out _).mono ?_; rintro e w' ⟨rfl, rfl⟩
  go_wp2_with fail
  refine (SB.out _).mono ?_; rintro e w' ⟨rfl, rfl⟩
  go_wp2_with fail
  refine (M.out _).mono ?_; rintro e w' ⟨rfl, rfl⟩
  go_wp2_with fail
  refine wp_region_noPanic ?_
  go_region_with (first | (go_at_call 19; refine (SC.out _).mono ?_; rintro e w' ⟨rfl, rfl⟩) | (go_at_call 42; refine (DV.out _).mono ?_; rintro e w' ⟨rfl, hbel⟩))
  all_goals refine NoPanic.normal ?_
  all_goals
    have hfr : Fr w w' := (((Fr.first w).step (((Below.refl _ _).alloc (Nat.le_refl _) (Obj.cells #[Value.int IntKind.u64 hi, Value.int IntKind.u64 lo] 72)).drew)).step hbel)
    clear hbel
    go_wp2_with fail
    refine (SC.out _).mono ?_; rintro e w2 ⟨rfl, rfl⟩
    go_wp2_with fail
    refine (UP.out _).mono ?_; rintro e w2 ⟨rfl, rfl⟩
  all_goals
    have hn := hfr.n
    have hnz := hfr.nz
    have he := hfr.e
    have hez := hfr.ez
    have HF : Hid (Fr w w') := hfr
    clear hfr
    go_wp2_with fail
  all_goals first
    | (have hu : up = true := by assumption
       have hq : ((q : Int) == 18446744073709551615) = true := by assumption
       obtain ⟨rfl, rfl⟩ := HQ.out hu (by simpa using hq)
       exact quotient_caught _ w w' rfl rfl rfl HF.out)
    | (go_at_call 31
       have hu : up = true := by assumption
       have hq : ((q : Int) == 18446744073709551615) = false := by assumption
       refine (S1.out hu (by simpa using hq) _).mono ?_
       rintro e w2 ⟨h | h, rfl⟩
       · obtain ⟨rfl, rfl⟩ := h
         go_wp2_with fail
         exact quotient_done _ w _ x 0 rfl rfl rfl ((World.cell?_setCell_other _ _ _ _ (by simp)).trans (World.cell?_setCell_same _ _ _ hn)) (World.cell?_setCell_same _ _ _ ((World.cell?_setCell_other _ _ _ _ (by simp)).trans he)) ((HF.out.below.setCell (Nat.le_refl _) _).setCell (Nat.le_succ _) _)
       · obtain ⟨rfl, rfl, rfl⟩ := h
         exact quotient_caught _ w w' rfl rfl rfl HF.out)
    | (go_at_call 31
       have hu : up = false := by assumption
       refine (S0.out hu _).mono ?_
       rintro e w2 ⟨h | h, rfl⟩
       · obtain ⟨rfl, rfl⟩ := h
         go_wp2_with fail
         exact quotient_done _ w _ x 0 rfl rfl rfl ((World.cell?_setCell_other _ _ _ _ (by simp)).trans (World.cell?_setCell_same _ _ _ hn)) (World.cell?_setCell_same _ _ _ ((World.cell?_setCell_other _ _ _ _ (by simp)).trans he)) ((HF.out.below.setCell (Nat.le_refl _) _).setCell (Nat.le_succ _) _)
       · obtain ⟨rfl, rfl, rfl⟩ := h
         exact quotient_caught _ w w' rfl rfl rfl HF.out)
theorem quotient_zero (a b : Int) (up : Value) (w : World) :
    Calls Tryz.prog 15 #[.int .i64 a, .int .i64 b, .int .i64 0, up] w fun e w' => e = .returned (.tuple #[.int .i64 0, .int .i64 2]) ∧ Below w.heap.size w w' := by
  go_enter_defers Tryz.func15, Tryz.ntmps15
  go_wp2
  simp [bodyPostD, Leaves, results, Tryz.results15, go_sem]
  exact ((Below.refl _ _).alloc (Nat.le_refl _) _).alloc (by simp) _
theorem signed_any (m : Nat) (neg : Bool) (W : World) :
    Calls Tryz.prog 31 #[.int .u64 m, .bool neg] W fun e w' => (e = .returned (.int .i64 (flow (withSign neg m)).1) ∧ (flow (withSign neg m)).2 = 0 ∨ e = .panicked flowPanic ∧ (flow (withSign neg m)).1 = 0 ∧ (flow (withSign neg m)).2 = 10) ∧ W = w' := by
  by_cases h : if neg = true then m ≤ 9223372036854775808 else m ≤ 9223372036854775807
  · have e : flow (withSign neg m) = (withSign neg m, 0) := by
      cases neg
      · simp only [Bool.false_eq_true, if_false] at h
        exact flow_in (by simp [withSign] <;> omega) (by simp [withSign] <;> omega)
      · simp only [if_true] at h
        exact flow_in (by simp [withSign] <;> omega) (by simp [withSign] <;> omega)
    refine (signed_tells m neg h W).mono ?_
    rintro e w' ⟨rfl, rfl⟩
    rw [e]
    exact ⟨Or.inl ⟨rfl, rfl⟩, rfl⟩
  · have e : flow (withSign neg m) = (0, 10) := by
      cases neg
      · simp only [Bool.false_eq_true, if_false] at h
        exact flow_over (by simp [withSign]; omega)
      · simp only [if_true] at h
        exact flow_over (by simp [withSign]; omega)
    refine (signed_panics m neg (by omega) (by cases neg <;> simp only [Bool.false_eq_true, if_false, if_true] at h ⊢ <;> omega) W).mono ?_
    rintro e w' ⟨rfl, rfl⟩
    rw [e]
    exact ⟨Or.inr ⟨rfl, rfl, rfl⟩, rfl⟩
/-- A quotient that is no word is no number. -/
theorem quot_great {a b c : Int} {rnd : Bool} (hc : c ≠ 0) (h : c.natAbs ≤ a.natAbs * b.natAbs / 18446744073709551616) : quot a b c rnd = (0, 10) := by
  have h1 : 18446744073709551616 * c.natAbs ≤ a.natAbs * b.natAbs := by
    have := Nat.div_mul_le_self (a.natAbs * b.natAbs) 18446744073709551616
    have := Nat.mul_le_mul_right 18446744073709551616 h
    omega
  have h2 : 18446744073709551616 ≤ a.natAbs * b.natAbs / c.natAbs := (Nat.le_div_iff_mul_le (by omega)).2 h1
  unfold quot magQ
  rw [if_neg hc]
  generalize a.natAbs * b.natAbs / c.natAbs = Q at *
  have hm : 18446744073709551616 ≤ Q + (if upQ rnd (sgn a b c) (a.natAbs * b.natAbs % c.natAbs) c.natAbs = true then 1 else 0) := by omega
  generalize Q + (if upQ rnd (sgn a b c) (a.natAbs * b.natAbs % c.natAbs) c.natAbs = true then 1 else 0) = m at *
  unfold withSign
  cases sgn a b c
  · exact flow_over (by simp; omega)
  · exact flow_over (by simp; omega)
theorem quotient_floor_tells (a b c : Int) (ha0 : -9223372036854775808 ≤ a) (ha1 : a ≤ 9223372036854775807) (hb0 : -9223372036854775808 ≤ b) (hb1 : b ≤ 9223372036854775807) (hc0 : -9223372036854775808 ≤ c) (hc1 : c ≤ 9223372036854775807) (w : World) :
    Calls Tryz.prog 15 #[.int .i64 a, .int .i64 b, .int .i64 c, .func (.func 17) #[] #[]] w fun e w' => e = .returned (.tuple #[.int .i64 (quot a b c false).1, .int .i64 (quot a b c false).2]) ∧ Below w.heap.size w w' := by
  by_cases hc : c = 0
  · subst hc
    exact quotient_zero a b _ w
  have SA := Lib.hid (size_any a ha0 ha1)
  have SB := Lib.hid (size_any b hb0 hb1)
  have SC := Lib.hid (size_any c hc0 hc1)
  have M := Lib.hid (fun W => (Tryz.bits_Mul64 a.natAbs b.natAbs (by omega) (by omega) W).mono (R' := fun e w' => e = .returned (.tuple #[.int .u64 ((a.natAbs * b.natAbs / 18446744073709551616 : Nat) : Int), .int .u64 ((a.natAbs * b.natAbs % 18446744073709551616 : Nat) : Int)]) ∧ W = w') fun e w' h => ⟨h.1, h.2.symm⟩)
  have HC : (c == 0) = false := by simpa using hc
  by_cases hd : c.natAbs ≤ a.natAbs * b.natAbs / 18446744073709551616
  · rw [quot_great hc hd]
    exact quotient_t a b c a.natAbs b.natAbs c.natAbs 17 w _ _ SA SB SC M (Lib.hid (divide_panics _ _ _ (by exact_mod_cast hd))) HC
  have hq : quot a b c false = flow (withSign (sgn a b c) (magQ a b c false)) := by unfold quot; rw [if_neg hc]
  have hdm : a.natAbs * b.natAbs / 18446744073709551616 * 18446744073709551616 + a.natAbs * b.natAbs % 18446744073709551616 = a.natAbs * b.natAbs := by omega
  have DV := Lib.hid (fun W => divide_tells (a.natAbs * b.natAbs / 18446744073709551616) (a.natAbs * b.natAbs % 18446744073709551616) c.natAbs (by omega) (by omega) (by omega) W)
  rw [hdm] at DV
  have hr : a.natAbs * b.natAbs % c.natAbs < c.natAbs := Nat.mod_lt _ (by omega)
  have hQ : a.natAbs * b.natAbs / c.natAbs < 18446744073709551616 := by
    rw [Nat.div_lt_iff_lt_mul (by omega)]
    omega
  have UP : Hid (∀ W, Calls Tryz.prog 17 #[.int .u64 ((a.natAbs * b.natAbs % c.natAbs : Nat) : Int), .int .u64 (c.natAbs : Int), .bool (sgn a b c)] W fun e w' => e = .returned (.bool (upQ false (sgn a b c) (a.natAbs * b.natAbs % c.natAbs) c.natAbs)) ∧ W = w') := fun W => by
    refine (up_floor _ _ _ W).mono ?_
    rintro e w' ⟨rfl, rfl⟩
    refine ⟨?_, rfl⟩
    unfold upQ
    simp only [Bool.false_eq_true, if_false]
    first
      | (rw [show decide ((0 : Int) < ((a.natAbs * b.natAbs % c.natAbs : Nat) : Int)) = decide (0 < a.natAbs * b.natAbs % c.natAbs) by rw [decide_eq_decide]; omega])
      | (rw [show decide ((c.natAbs : Int) ≤ 2 * ((a.natAbs * b.natAbs % c.natAbs : Nat) : Int)) = decide (c.natAbs ≤ 2 * (a.natAbs * b.natAbs % c.natAbs)) by rw [decide_eq_decide]; omega])
  rw [hq]
  refine quotient_floor a b c a.natAbs b.natAbs c.natAbs w _ _ (a.natAbs * b.natAbs / c.natAbs) (a.natAbs * b.natAbs % c.natAbs) (upQ false (sgn a b c) (a.natAbs * b.natAbs % c.natAbs) c.natAbs) _ _ SA SB SC M DV UP (fun hu hm => ?_) (fun hu W => ?_) (fun hu hm W => ?_) HC
  · have e : magQ a b c false = 18446744073709551616 := by unfold magQ; rw [if_pos hu]; omega
    rw [e]
    have : flow (withSign (sgn a b c) 18446744073709551616) = (0, 10) := by
      unfold withSign
      cases sgn a b c
      · exact flow_over (by simp)
      · exact flow_over (by simp)
    rw [this]; exact ⟨rfl, rfl⟩
  · have e : magQ a b c false = a.natAbs * b.natAbs / c.natAbs := by unfold magQ; rw [hu]; simp
    rw [e]
    exact signed_any (a.natAbs * b.natAbs / c.natAbs) (sgn a b c) W
  · have e : magQ a b c false = a.natAbs * b.natAbs / c.natAbs + 1 := by unfold magQ; rw [if_pos hu]
    have e2 : IntKind.u64.wrap (((a.natAbs * b.natAbs / c.natAbs : Nat) : Int) + 1) = ((a.natAbs * b.natAbs / c.natAbs + 1 : Nat) : Int) := by
      rw [u64in (by omega) (by omega)]; omega
    rw [e, e2]
    exact signed_any (a.natAbs * b.natAbs / c.natAbs + 1) (sgn a b c) W
theorem quotient_round_tells (a b c : Int) (ha0 : -9223372036854775808 ≤ a) (ha1 : a ≤ 9223372036854775807) (hb0 : -9223372036854775808 ≤ b) (hb1 : b ≤ 9223372036854775807) (hc0 : -9223372036854775808 ≤ c) (hc1 : c ≤ 9223372036854775807) (w : World) :
    Calls Tryz.prog 15 #[.int .i64 a, .int .i64 b, .int .i64 c, .func (.func 16) #[] #[]] w fun e w' => e = .returned (.tuple #[.int .i64 (quot a b c true).1, .int .i64 (quot a b c true).2]) ∧ Below w.heap.size w w' := by
  by_cases hc : c = 0
  · subst hc
    exact quotient_zero a b _ w
  have SA := Lib.hid (size_any a ha0 ha1)
  have SB := Lib.hid (size_any b hb0 hb1)
  have SC := Lib.hid (size_any c hc0 hc1)
  have M := Lib.hid (fun W => (Tryz.bits_Mul64 a.natAbs b.natAbs (by omega) (by omega) W).mono (R' := fun e w' => e = .returned (.tuple #[.int .u64 ((a.natAbs * b.natAbs / 18446744073709551616 : Nat) : Int), .int .u64 ((a.natAbs * b.natAbs % 18446744073709551616 : Nat) : Int)]) ∧ W = w') fun e w' h => ⟨h.1, h.2.symm⟩)
  have HC : (c == 0) = false := by simpa using hc
  by_cases hd : c.natAbs ≤ a.natAbs * b.natAbs / 18446744073709551616
  · rw [quot_great hc hd]
    exact quotient_t a b c a.natAbs b.natAbs c.natAbs 16 w _ _ SA SB SC M (Lib.hid (divide_panics _ _ _ (by exact_mod_cast hd))) HC
  have hq : quot a b c true = flow (withSign (sgn a b c) (magQ a b c true)) := by unfold quot; rw [if_neg hc]
  have hdm : a.natAbs * b.natAbs / 18446744073709551616 * 18446744073709551616 + a.natAbs * b.natAbs % 18446744073709551616 = a.natAbs * b.natAbs := by omega
  have DV := Lib.hid (fun W => divide_tells (a.natAbs * b.natAbs / 18446744073709551616) (a.natAbs * b.natAbs % 18446744073709551616) c.natAbs (by omega) (by omega) (by omega) W)
  rw [hdm] at DV
  have hr : a.natAbs * b.natAbs % c.natAbs < c.natAbs := Nat.mod_lt _ (by omega)
  have hQ : a.natAbs * b.natAbs / c.natAbs < 18446744073709551616 := by
    rw [Nat.div_lt_iff_lt_mul (by omega)]
    omega
  have UP : Hid (∀ W, Calls Tryz.prog 16 #[.int .u64 ((a.natAbs * b.natAbs % c.natAbs : Nat) : Int), .int .u64 (c.natAbs : Int), .bool (sgn a b c)] W fun e w' => e = .returned (.bool (upQ true (sgn a b c) (a.natAbs * b.natAbs % c.natAbs) c.natAbs)) ∧ W = w') := fun W => by
    refine (up_round _ _ _ (by omega) (by omega) (by omega) W).mono ?_
    rintro e w' ⟨rfl, rfl⟩
    refine ⟨?_, rfl⟩
    unfold upQ
    simp only [if_true]
    first
      | (rw [show decide ((0 : Int) < ((a.natAbs * b.natAbs % c.natAbs : Nat) : Int)) = decide (0 < a.natAbs * b.natAbs % c.natAbs) by rw [decide_eq_decide]; omega])
      | (rw [show decide ((c.natAbs : Int) ≤ 2 * ((a.natAbs * b.natAbs % c.natAbs : Nat) : Int)) = decide (c.natAbs ≤ 2 * (a.natAbs * b.natAbs % c.natAbs)) by rw [decide_eq_decide]; omega])
  rw [hq]
  refine quotient_round a b c a.natAbs b.natAbs c.natAbs w _ _ (a.natAbs * b.natAbs / c.natAbs) (a.natAbs * b.natAbs % c.natAbs) (upQ true (sgn a b c) (a.natAbs * b.natAbs % c.natAbs) c.natAbs) _ _ SA SB SC M DV UP (fun hu hm => ?_) (fun hu W => ?_) (fun hu hm W => ?_) HC
  · have e : magQ a b c true = 18446744073709551616 := by unfold magQ; rw [if_pos hu]; omega
    rw [e]
    have : flow (withSign (sgn a b c) 18446744073709551616) = (0, 10) := by
      unfold withSign
      cases sgn a b c
      · exact flow_over (by simp)
      · exact flow_over (by simp)
    rw [this]; exact ⟨rfl, rfl⟩
  · have e : magQ a b c true = a.natAbs * b.natAbs / c.natAbs := by unfold magQ; rw [hu]; simp
    rw [e]
    exact signed_any (a.natAbs * b.natAbs / c.natAbs) (sgn a b c) W
  · have e : magQ a b c true = a.natAbs * b.natAbs / c.natAbs + 1 := by unfold magQ; rw [if_pos hu]
    have e2 : IntKind.u64.wrap (((a.natAbs * b.natAbs / c.natAbs : Nat) : Int) + 1) = ((a.natAbs * b.natAbs / c.natAbs + 1 : Nat) : Int) := by
      rw [u64in (by omega) (by omega)]; omega
    rw [e, e2]
    exact signed_any (a.natAbs * b.natAbs / c.natAbs + 1) (sgn a b c) W
/-! ### The exported ones -/
theorem MulDiv_tells (a b c : Int) (ha0 : -9223372036854775808 ≤ a) (ha1 : a ≤ 9223372036854775807) (hb0 : -9223372036854775808 ≤ b) (hb1 : b ≤ 9223372036854775807) (hc0 : -9223372036854775808 ≤ c) (hc1 : c ≤ 9223372036854775807) (w : World) :
    Calls Tryz.prog 5 #[.int .i64 a, .int .i64 b, .int .i64 c] w fun e w' => e = .returned (.tuple #[.int .i64 (quot a b c false).1, .int .i64 (quot a b c false).2]) ∧ Below w.heap.size w w' := by
  have H := Lib.hid (fun W => quotient_floor_tells a b c ha0 ha1 hb0 hb1 hc0 hc1 W)
  clear ha0 ha1 hb0 hb1 hc0 hc1
  generalize (quot a b c false).1 = x at *
  generalize (quot a b c false).2 = y at *
  go_enter Tryz.func5, Tryz.ntmps5
  go_wp2_with (go_at_call 15; refine (H.out _).mono ?_; rintro e w' ⟨rfl, hb⟩)
  go_ret2
  exact ⟨rfl, hb⟩
theorem Round_tells (a b c : Int) (ha0 : -9223372036854775808 ≤ a) (ha1 : a ≤ 9223372036854775807) (hb0 : -9223372036854775808 ≤ b) (hb1 : b ≤ 9223372036854775807) (hc0 : -9223372036854775808 ≤ c) (hc1 : c ≤ 9223372036854775807) (w : World) :
    Calls Tryz.prog 4 #[.int .i64 a, .int .i64 b, .int .i64 c] w fun e w' => e = .returned (.tuple #[.int .i64 (quot a b c true).1, .int .i64 (quot a b c true).2]) ∧ Below w.heap.size w w' := by
  have H := Lib.hid (fun W => quotient_round_tells a b c ha0 ha1 hb0 hb1 hc0 hc1 W)
  clear ha0 ha1 hb0 hb1 hc0 hc1
  generalize (quot a b c true).1 = x at *
  generalize (quot a b c true).2 = y at *
  go_enter Tryz.func4, Tryz.ntmps4
  go_wp2_with (go_at_call 15; refine (H.out _).mono ?_; rintro e w' ⟨rfl, hb⟩)
  go_ret2
  exact ⟨rfl, hb⟩
theorem Ratio_tells (a b : Int) (ha0 : -9223372036854775808 ≤ a) (ha1 : a ≤ 9223372036854775807) (hb0 : -9223372036854775808 ≤ b) (hb1 : b ≤ 9223372036854775807) (w : World) :
    Calls Tryz.prog 38 #[.int .i64 a, .int .i64 b] w fun e w' => e = .returned (.tuple #[.int .i64 (quot a 65536 b true).1, .int .i64 (quot a 65536 b true).2]) ∧ Below w.heap.size w w' := by
  have H := Lib.hid (fun W => Round_tells a 65536 b ha0 ha1 (by omega) (by omega) hb0 hb1 W)
  clear ha0 ha1 hb0 hb1
  generalize (quot a 65536 b true).1 = x at *
  generalize (quot a 65536 b true).2 = y at *
  go_enter Tryz.func38, Tryz.ntmps38
  go_wp2_with (go_at_call 4; refine (H.out _).mono ?_; rintro e w' ⟨rfl, hb⟩)
  go_ret2
  exact ⟨rfl, hb⟩
theorem Scale_tells (a b c : Int) (ha0 : -9223372036854775808 ≤ a) (ha1 : a ≤ 9223372036854775807) (hb0 : -9223372036854775808 ≤ b) (hb1 : b ≤ 9223372036854775807) (hc0 : 0 ≤ c) (hc1 : c < 65536) (w : World) :
    Calls Tryz.prog 39 #[.int .i64 a, .int .i64 b, .int .u16 c] w fun e w' => e = .returned (.tuple #[.int .i64 (quot a b c true).1, .int .i64 (quot a b c true).2]) ∧ Below w.heap.size w w' := by
  have H := Lib.hid (fun W => Round_tells a b c ha0 ha1 hb0 hb1 (by omega) (by omega) W)
  have E := Lib.hid (w64 (n := c) (by omega) (by omega))
  clear ha0 ha1 hb0 hb1 hc0 hc1
  generalize (quot a b c true).1 = x at *
  generalize (quot a b c true).2 = y at *
  go_enter Tryz.func39, Tryz.ntmps39
  go_wp2_with (go_at_call 4; rw [E.out]; refine (H.out _).mono ?_; rintro e w' ⟨rfl, hb⟩)
  go_ret2
  exact ⟨rfl, hb⟩
end Go.Proofs.YtfhadnhpognefaaGreatDoor.Fx
