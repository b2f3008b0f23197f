/- A quotient times its divisor is near the product: the program's law on it returns true. -/
import Derived.Test.YtfhadnhpognefaaGreatDoorFxLaws
namespace Go.Proofs.YtfhadnhpognefaaGreatDoor.Fx
open Go Go.RowKit

set_option maxHeartbeats 2000000 in
set_option maxRecDepth 100000 in
theorem Near_p_low (a b x m R F : Int) (ha0 : -2147483648 ≤ a) (ha1 : a ≤ 2147483647) (hb0 : -2147483648 ≤ b) (hb1 : b ≤ 2147483647) (w : World) (hw : Wf w)
    (MD : Hid (∀ W, Calls Tryz.prog 5 #[.int .i64 a, .int .i64 b, .int .i64 (F + R)] W fun e w' => e = .returned (.tuple #[.int .i64 x, .int .i64 0]) ∧ Below W.heap.size W w'))
    (RO : Hid (∀ W, Calls Tryz.prog 4 #[.int .i64 a, .int .i64 b, .int .i64 (F + R)] W fun e w' => e = .returned (.tuple #[.int .i64 x, .int .i64 0]) ∧ Below W.heap.size W w'))
    (ep : wrap64 (a * b) = (R + m)) (em : wrap64 (x * (F + R)) = m) (x0 : -9223372036854775808 ≤ x) (x1 : x < 9223372036854775807)
    (r0 : 0 ≤ R) (f0 : 0 < F) (d1 : F + R ≤ 9223372036854775807) (hq : R < F) :
    Calls Tryz.prog 13 #[.int .i32 a, .int .i32 b, .int .i64 (F + R)] w fun e w' => e = .returned (.bool true) ∧ Below w.heap.size w w' := by
  have HW := Lib.hid hw
  clear hw
  have z1 : ((F + R) == 0) = false := by simp; omega
  have z2 : ((F + R) == -9223372036854775808) = false := by simp; omega
  have f1 : (x == x + 1) = false := by simp; omega
  go_enter Tryz.func13, Tryz.ntmps13
  go_wp2_with fail
  refine (MD.out _).mono ?_
  rintro e W1 ⟨rfl, b1⟩
  have c1 := Lib.hid b1
  clear b1
  go_wp2_with fail
  refine (RO.out _).mono ?_
  rintro e W2 ⟨rfl, b2⟩
  have c2 := Lib.hid (c1.out.trans (b2.mono c1.out.size))
  clear b2
  go_wp2_with fail
  all_goals
    refine (works_tells _ (HW.out.below c2.out)).mono ?_
    rintro e W3 ⟨rfl, b3⟩
    have c3 := Lib.hid (c2.out.trans (b3.mono c2.out.size))
    clear b3
    go_wp2
    go_ret
    exact ⟨rfl, c3.out⟩
set_option maxHeartbeats 2000000 in
set_option maxRecDepth 100000 in
theorem Near_p_eql (a b x m R : Int) (ha0 : -2147483648 ≤ a) (ha1 : a ≤ 2147483647) (hb0 : -2147483648 ≤ b) (hb1 : b ≤ 2147483647) (w : World) (hw : Wf w)
    (MD : Hid (∀ W, Calls Tryz.prog 5 #[.int .i64 a, .int .i64 b, .int .i64 (R + R)] W fun e w' => e = .returned (.tuple #[.int .i64 x, .int .i64 0]) ∧ Below W.heap.size W w'))
    (RO : Hid (∀ W, Calls Tryz.prog 4 #[.int .i64 a, .int .i64 b, .int .i64 (R + R)] W fun e w' => e = .returned (.tuple #[.int .i64 x, .int .i64 0]) ∧ Below W.heap.size W w'))
    (ep : wrap64 (a * b) = (R + m)) (em : wrap64 (x * (R + R)) = m) (p0 : -4611686018427387904 ≤ R + m) (p1 : R + m ≤ 4611686018427387904) (x0 : -9223372036854775808 ≤ x) (x1 : x < 9223372036854775807)
    (r0 : 0 ≤ R) (f0 : 0 < R) (d1 : R + R ≤ 9223372036854775807) (hp : R + m ≤ 0) :
    Calls Tryz.prog 13 #[.int .i32 a, .int .i32 b, .int .i64 (R + R)] w fun e w' => e = .returned (.bool true) ∧ Below w.heap.size w w' := by
  have HW := Lib.hid hw
  clear hw
  have z1 : ((R + R) == 0) = false := by simp; omega
  have z2 : ((R + R) == -9223372036854775808) = false := by simp; omega
  have f1 : (x == x + 1) = false := by simp; omega
  go_enter Tryz.func13, Tryz.ntmps13
  go_wp2_with fail
  refine (MD.out _).mono ?_
  rintro e W1 ⟨rfl, b1⟩
  have c1 := Lib.hid b1
  clear b1
  go_wp2_with fail
  refine (RO.out _).mono ?_
  rintro e W2 ⟨rfl, b2⟩
  have c2 := Lib.hid (c1.out.trans (b2.mono c1.out.size))
  clear b2
  go_wp2_with fail
  all_goals
    refine (works_tells _ (HW.out.below c2.out)).mono ?_
    rintro e W3 ⟨rfl, b3⟩
    have c3 := Lib.hid (c2.out.trans (b3.mono c2.out.size))
    clear b3
    go_wp2
    go_ret
    exact ⟨rfl, c3.out⟩
set_option maxHeartbeats 2000000 in
set_option maxRecDepth 100000 in
theorem Near_p_high (a b x m R F y : Int) (ha0 : -2147483648 ≤ a) (ha1 : a ≤ 2147483647) (hb0 : -2147483648 ≤ b) (hb1 : b ≤ 2147483647) (w : World) (hw : Wf w)
    (MD : Hid (∀ W, Calls Tryz.prog 5 #[.int .i64 a, .int .i64 b, .int .i64 (F + R)] W fun e w' => e = .returned (.tuple #[.int .i64 x, .int .i64 0]) ∧ Below W.heap.size W w'))
    (RO : Hid (∀ W, Calls Tryz.prog 4 #[.int .i64 a, .int .i64 b, .int .i64 (F + R)] W fun e w' => e = .returned (.tuple #[.int .i64 y, .int .i64 0]) ∧ Below W.heap.size W w'))
    (ep : wrap64 (a * b) = (R + m)) (em : wrap64 (x * (F + R)) = m) (hy : y = x + 1) (x0 : -9223372036854775808 ≤ x) (x1 : x < 9223372036854775807)
    (r0 : 0 ≤ R) (f0 : 0 < F) (d1 : F + R ≤ 9223372036854775807) (hq : F < R) :
    Calls Tryz.prog 13 #[.int .i32 a, .int .i32 b, .int .i64 (F + R)] w fun e w' => e = .returned (.bool true) ∧ Below w.heap.size w w' := by
  have HW := Lib.hid hw
  clear hw
  have z1 : ((F + R) == 0) = false := by simp; omega
  have z2 : ((F + R) == -9223372036854775808) = false := by simp; omega
  have f2 : (y == x) = false := by simp; omega
  have HY := Lib.hid hy
  clear hy
  go_enter Tryz.func13, Tryz.ntmps13
  go_wp2_with fail
  refine (MD.out _).mono ?_
  rintro e W1 ⟨rfl, b1⟩
  have c1 := Lib.hid b1
  clear b1
  go_wp2_with fail
  refine (RO.out _).mono ?_
  rintro e W2 ⟨rfl, b2⟩
  have c2 := Lib.hid (c1.out.trans (b2.mono c1.out.size))
  clear b2
  go_wp2_with fail
  all_goals first
    | go_at_call 14
    | (exfalso; have hh := HY.out; omega)
    | (exfalso; have hh := HY.out; simp only [bne_iff_ne, ne_eq, beq_eq_false_iff_ne] at *; omega)
    | (exfalso; have hh := HY.out; subst hh; simp_all; done)
  all_goals
    refine (works_tells _ (HW.out.below c2.out)).mono ?_
    rintro e W3 ⟨rfl, b3⟩
    have c3 := Lib.hid (c2.out.trans (b3.mono c2.out.size))
    clear b3
    go_wp2
    go_ret
    exact ⟨rfl, c3.out⟩
set_option maxHeartbeats 2000000 in
set_option maxRecDepth 100000 in
theorem Near_p_eqh (a b x m R y : Int) (ha0 : -2147483648 ≤ a) (ha1 : a ≤ 2147483647) (hb0 : -2147483648 ≤ b) (hb1 : b ≤ 2147483647) (w : World) (hw : Wf w)
    (MD : Hid (∀ W, Calls Tryz.prog 5 #[.int .i64 a, .int .i64 b, .int .i64 (R + R)] W fun e w' => e = .returned (.tuple #[.int .i64 x, .int .i64 0]) ∧ Below W.heap.size W w'))
    (RO : Hid (∀ W, Calls Tryz.prog 4 #[.int .i64 a, .int .i64 b, .int .i64 (R + R)] W fun e w' => e = .returned (.tuple #[.int .i64 y, .int .i64 0]) ∧ Below W.heap.size W w'))
    (ep : wrap64 (a * b) = (R + m)) (em : wrap64 (x * (R + R)) = m) (hy : y = x + 1) (x0 : -9223372036854775808 ≤ x) (x1 : x < 9223372036854775807)
    (r0 : 0 ≤ R) (f0 : 0 < R) (d1 : R + R ≤ 9223372036854775807) (hp : 0 < R + m) :
    Calls Tryz.prog 13 #[.int .i32 a, .int .i32 b, .int .i64 (R + R)] w fun e w' => e = .returned (.bool true) ∧ Below w.heap.size w w' := by
  have HW := Lib.hid hw
  clear hw
  have z1 : ((R + R) == 0) = false := by simp; omega
  have z2 : ((R + R) == -9223372036854775808) = false := by simp; omega
  have f2 : (y == x) = false := by simp; omega
  have HY := Lib.hid hy
  clear hy
  go_enter Tryz.func13, Tryz.ntmps13
  go_wp2_with fail
  refine (MD.out _).mono ?_
  rintro e W1 ⟨rfl, b1⟩
  have c1 := Lib.hid b1
  clear b1
  go_wp2_with fail
  refine (RO.out _).mono ?_
  rintro e W2 ⟨rfl, b2⟩
  have c2 := Lib.hid (c1.out.trans (b2.mono c1.out.size))
  clear b2
  go_wp2_with fail
  all_goals first
    | go_at_call 14
    | (exfalso; have hh := HY.out; omega)
    | (exfalso; have hh := HY.out; simp only [bne_iff_ne, ne_eq, beq_eq_false_iff_ne] at *; omega)
    | (exfalso; have hh := HY.out; subst hh; simp_all; done)
  all_goals
    refine (works_tells _ (HW.out.below c2.out)).mono ?_
    rintro e W3 ⟨rfl, b3⟩
    have c3 := Lib.hid (c2.out.trans (b3.mono c2.out.size))
    clear b3
    go_wp2
    go_ret
    exact ⟨rfl, c3.out⟩
set_option maxHeartbeats 2000000 in
set_option maxRecDepth 100000 in
theorem Near_n_low (a b x m R F : Int) (ha0 : -2147483648 ≤ a) (ha1 : a ≤ 2147483647) (hb0 : -2147483648 ≤ b) (hb1 : b ≤ 2147483647) (w : World) (hw : Wf w)
    (MD : Hid (∀ W, Calls Tryz.prog 5 #[.int .i64 a, .int .i64 b, .int .i64 (-(F + R))] W fun e w' => e = .returned (.tuple #[.int .i64 x, .int .i64 0]) ∧ Below W.heap.size W w'))
    (RO : Hid (∀ W, Calls Tryz.prog 4 #[.int .i64 a, .int .i64 b, .int .i64 (-(F + R))] W fun e w' => e = .returned (.tuple #[.int .i64 x, .int .i64 0]) ∧ Below W.heap.size W w'))
    (ep : wrap64 (a * b) = (-(R + m))) (em : wrap64 (x * (F + R)) = m) (p0 : -4611686018427387904 ≤ R + m) (p1 : R + m ≤ 4611686018427387904) (x0 : -9223372036854775808 ≤ x) (x1 : x < 9223372036854775807)
    (r0 : 0 ≤ R) (f0 : 0 < F) (d1 : F + R ≤ 9223372036854775807) (hq : R < F) :
    Calls Tryz.prog 13 #[.int .i32 a, .int .i32 b, .int .i64 (-(F + R))] w fun e w' => e = .returned (.bool true) ∧ Below w.heap.size w w' := by
  have HW := Lib.hid hw
  clear hw
  have z1 : ((-(F + R)) == 0) = false := by simp; omega
  have z2 : ((-(F + R)) == -9223372036854775808) = false := by simp; omega
  have f1 : (x == x + 1) = false := by simp; omega
  go_enter Tryz.func13, Tryz.ntmps13
  go_wp2_with fail
  refine (MD.out _).mono ?_
  rintro e W1 ⟨rfl, b1⟩
  have c1 := Lib.hid b1
  clear b1
  go_wp2_with fail
  refine (RO.out _).mono ?_
  rintro e W2 ⟨rfl, b2⟩
  have c2 := Lib.hid (c1.out.trans (b2.mono c1.out.size))
  clear b2
  go_wp2_with fail
  all_goals
    refine (works_tells _ (HW.out.below c2.out)).mono ?_
    rintro e W3 ⟨rfl, b3⟩
    have c3 := Lib.hid (c2.out.trans (b3.mono c2.out.size))
    clear b3
    go_wp2
    go_ret
    exact ⟨rfl, c3.out⟩
set_option maxHeartbeats 2000000 in
set_option maxRecDepth 100000 in
theorem Near_n_eql (a b x m R : Int) (ha0 : -2147483648 ≤ a) (ha1 : a ≤ 2147483647) (hb0 : -2147483648 ≤ b) (hb1 : b ≤ 2147483647) (w : World) (hw : Wf w)
    (MD : Hid (∀ W, Calls Tryz.prog 5 #[.int .i64 a, .int .i64 b, .int .i64 (-(R + R))] W fun e w' => e = .returned (.tuple #[.int .i64 x, .int .i64 0]) ∧ Below W.heap.size W w'))
    (RO : Hid (∀ W, Calls Tryz.prog 4 #[.int .i64 a, .int .i64 b, .int .i64 (-(R + R))] W fun e w' => e = .returned (.tuple #[.int .i64 x, .int .i64 0]) ∧ Below W.heap.size W w'))
    (ep : wrap64 (a * b) = (-(R + m))) (em : wrap64 (x * (R + R)) = m) (p0 : -4611686018427387904 ≤ R + m) (p1 : R + m ≤ 4611686018427387904) (x0 : -9223372036854775808 ≤ x) (x1 : x < 9223372036854775807)
    (r0 : 0 ≤ R) (f0 : 0 < R) (d1 : R + R ≤ 9223372036854775807) (hp : R + m ≤ 0) :
    Calls Tryz.prog 13 #[.int .i32 a, .int .i32 b, .int .i64 (-(R + R))] w fun e w' => e = .returned (.bool true) ∧ Below w.heap.size w w' := by
  have HW := Lib.hid hw
  clear hw
  have z1 : ((-(R + R)) == 0) = false := by simp; omega
  have z2 : ((-(R + R)) == -9223372036854775808) = false := by simp; omega
  have f1 : (x == x + 1) = false := by simp; omega
  go_enter Tryz.func13, Tryz.ntmps13
  go_wp2_with fail
  refine (MD.out _).mono ?_
  rintro e W1 ⟨rfl, b1⟩
  have c1 := Lib.hid b1
  clear b1
  go_wp2_with fail
  refine (RO.out _).mono ?_
  rintro e W2 ⟨rfl, b2⟩
  have c2 := Lib.hid (c1.out.trans (b2.mono c1.out.size))
  clear b2
  go_wp2_with fail
  all_goals
    refine (works_tells _ (HW.out.below c2.out)).mono ?_
    rintro e W3 ⟨rfl, b3⟩
    have c3 := Lib.hid (c2.out.trans (b3.mono c2.out.size))
    clear b3
    go_wp2
    go_ret
    exact ⟨rfl, c3.out⟩
set_option maxHeartbeats 2000000 in
set_option maxRecDepth 100000 in
theorem Near_n_high (a b x m R F y : Int) (ha0 : -2147483648 ≤ a) (ha1 : a ≤ 2147483647) (hb0 : -2147483648 ≤ b) (hb1 : b ≤ 2147483647) (w : World) (hw : Wf w)
    (MD : Hid (∀ W, Calls Tryz.prog 5 #[.int .i64 a, .int .i64 b, .int .i64 (-(F + R))] W fun e w' => e = .returned (.tuple #[.int .i64 x, .int .i64 0]) ∧ Below W.heap.size W w'))
    (RO : Hid (∀ W, Calls Tryz.prog 4 #[.int .i64 a, .int .i64 b, .int .i64 (-(F + R))] W fun e w' => e = .returned (.tuple #[.int .i64 y, .int .i64 0]) ∧ Below W.heap.size W w'))
    (ep : wrap64 (a * b) = (-(R + m))) (em : wrap64 (x * (F + R)) = m) (p0 : -4611686018427387904 ≤ R + m) (p1 : R + m ≤ 4611686018427387904) (hy : y = x + 1) (x0 : -9223372036854775808 ≤ x) (x1 : x < 9223372036854775807)
    (r0 : 0 ≤ R) (f0 : 0 < F) (d1 : F + R ≤ 9223372036854775807) (hq : F < R) :
    Calls Tryz.prog 13 #[.int .i32 a, .int .i32 b, .int .i64 (-(F + R))] w fun e w' => e = .returned (.bool true) ∧ Below w.heap.size w w' := by
  have HW := Lib.hid hw
  clear hw
  have z1 : ((-(F + R)) == 0) = false := by simp; omega
  have z2 : ((-(F + R)) == -9223372036854775808) = false := by simp; omega
  have f2 : (y == x) = false := by simp; omega
  have HY := Lib.hid hy
  clear hy
  go_enter Tryz.func13, Tryz.ntmps13
  go_wp2_with fail
  refine (MD.out _).mono ?_
  rintro e W1 ⟨rfl, b1⟩
  have c1 := Lib.hid b1
  clear b1
  go_wp2_with fail
  refine (RO.out _).mono ?_
  rintro e W2 ⟨rfl, b2⟩
  have c2 := Lib.hid (c1.out.trans (b2.mono c1.out.size))
  clear b2
  go_wp2_with fail
  all_goals first
    | go_at_call 14
    | (exfalso; have hh := HY.out; omega)
    | (exfalso; have hh := HY.out; simp only [bne_iff_ne, ne_eq, beq_eq_false_iff_ne] at *; omega)
    | (exfalso; have hh := HY.out; subst hh; simp_all; done)
  all_goals
    refine (works_tells _ (HW.out.below c2.out)).mono ?_
    rintro e W3 ⟨rfl, b3⟩
    have c3 := Lib.hid (c2.out.trans (b3.mono c2.out.size))
    clear b3
    go_wp2
    go_ret
    exact ⟨rfl, c3.out⟩
set_option maxHeartbeats 2000000 in
set_option maxRecDepth 100000 in
theorem Near_n_eqh (a b x m R y : Int) (ha0 : -2147483648 ≤ a) (ha1 : a ≤ 2147483647) (hb0 : -2147483648 ≤ b) (hb1 : b ≤ 2147483647) (w : World) (hw : Wf w)
    (MD : Hid (∀ W, Calls Tryz.prog 5 #[.int .i64 a, .int .i64 b, .int .i64 (-(R + R))] W fun e w' => e = .returned (.tuple #[.int .i64 x, .int .i64 0]) ∧ Below W.heap.size W w'))
    (RO : Hid (∀ W, Calls Tryz.prog 4 #[.int .i64 a, .int .i64 b, .int .i64 (-(R + R))] W fun e w' => e = .returned (.tuple #[.int .i64 y, .int .i64 0]) ∧ Below W.heap.size W w'))
    (ep : wrap64 (a * b) = (-(R + m))) (em : wrap64 (x * (R + R)) = m) (p0 : -4611686018427387904 ≤ R + m) (p1 : R + m ≤ 4611686018427387904) (hy : y = x + 1) (x0 : -9223372036854775808 ≤ x) (x1 : x < 9223372036854775807)
    (r0 : 0 ≤ R) (f0 : 0 < R) (d1 : R + R ≤ 9223372036854775807) (hp : 0 < R + m) :
    Calls Tryz.prog 13 #[.int .i32 a, .int .i32 b, .int .i64 (-(R + R))] w fun e w' => e = .returned (.bool true) ∧ Below w.heap.size w w' := by
  have HW := Lib.hid hw
  clear hw
  have z1 : ((-(R + R)) == 0) = false := by simp; omega
  have z2 : ((-(R + R)) == -9223372036854775808) = false := by simp; omega
  have f2 : (y == x) = false := by simp; omega
  have HY := Lib.hid hy
  clear hy
  go_enter Tryz.func13, Tryz.ntmps13
  go_wp2_with fail
  refine (MD.out _).mono ?_
  rintro e W1 ⟨rfl, b1⟩
  have c1 := Lib.hid b1
  clear b1
  go_wp2_with fail
  refine (RO.out _).mono ?_
  rintro e W2 ⟨rfl, b2⟩
  have c2 := Lib.hid (c1.out.trans (b2.mono c1.out.size))
  clear b2
  go_wp2_with fail
  all_goals first
    | go_at_call 14
    | (exfalso; have hh := HY.out; omega)
    | (exfalso; have hh := HY.out; simp only [bne_iff_ne, ne_eq, beq_eq_false_iff_ne] at *; omega)
    | (exfalso; have hh := HY.out; subst hh; simp_all; done)
  all_goals
    refine (works_tells _ (HW.out.below c2.out)).mono ?_
    rintro e W3 ⟨rfl, b3⟩
    have c3 := Lib.hid (c2.out.trans (b3.mono c2.out.size))
    clear b3
    go_wp2
    go_ret
    exact ⟨rfl, c3.out⟩
theorem near_cases (P D : Nat) (s : Bool) (hD : 0 < D) (hD1 : D ≤ 9223372036854775807) (hP : P ≤ 4611686018427387904) :
    ∃ x y R F : Int, flow (withSign s (P / D + if upQ false s (P % D) D = true then 1 else 0)) = (x, 0) ∧ flow (withSign s (P / D + if upQ true s (P % D) D = true then 1 else 0)) = (y, 0) ∧
      (D : Int) = F + R ∧ withSign s P = R + x * D ∧ 0 ≤ R ∧ 0 < F ∧ -9223372036854775808 ≤ x * D ∧ x * D ≤ 9223372036854775807 ∧ -9223372036854775808 ≤ x ∧ x < 9223372036854775807 ∧
      (R < F ∧ y = x ∨ R = F ∧ y = x ∧ withSign s P ≤ 0 ∨ F < R ∧ y = x + 1 ∨ R = F ∧ y = x + 1 ∧ 0 < withSign s P) := by
  have e := Nat.div_add_mod P D
  have hr := Nat.mod_lt P hD
  have hq : P / D ≤ P := Nat.div_le_self P D
  generalize P / D = q at *
  generalize P % D = r at *
  have eI : (P : Int) = (q : Int) * D + r := by
    have : ((D * q + r : Nat) : Int) = (P : Int) := by rw [e]
    rw [← this, Int.natCast_add, Int.natCast_mul, Int.mul_comm]
  have h1 : (0 : Int) ≤ (q : Int) * D := Int.mul_nonneg (by omega) (by omega)
  cases s
  · -- not negative
    have u1 : upQ false false r D = false := rfl
    have u2 : upQ true false r D = decide (D ≤ 2 * r) := rfl
    rw [u1, u2]
    have f1 : flow (withSign false (q + if false = true then 1 else 0)) = ((q : Int), 0) := flow_in (by simp [withSign]) (by simp [withSign] <;> omega)
    by_cases h2 : D ≤ 2 * r
    · have f2 : flow (withSign false (q + if decide (D ≤ 2 * r) = true then 1 else 0)) = ((q : Int) + 1, 0) := by
        rw [if_pos (by simpa using h2)]
        exact flow_in (by simp [withSign] <;> omega) (by simp [withSign] <;> omega)
      refine ⟨q, q + 1, r, D - r, f1, f2, by omega, ?_, by omega, by omega, by omega, by omega, by omega, by omega, ?_⟩
      · show (P : Int) = _
        omega
      · show _ ∨ _ ∨ _ ∨ _ ∧ _ ∧ 0 < (P : Int)
        omega
    · have f2 : flow (withSign false (q + if decide (D ≤ 2 * r) = true then 1 else 0)) = ((q : Int), 0) := by
        rw [if_neg (by simpa using h2)]
        exact flow_in (by simp [withSign]) (by simp [withSign] <;> omega)
      refine ⟨q, q, r, D - r, f1, f2, by omega, ?_, by omega, by omega, by omega, by omega, by omega, by omega, ?_⟩
      · show (P : Int) = _
        omega
      · left; omega
  · -- negative
    have u1 : upQ false true r D = decide (0 < r) := rfl
    have u2 : upQ true true r D = decide (D ≤ 2 * r) := rfl
    rw [u1, u2]
    have n1 : -(q : Int) * D = -((q : Int) * D) := Int.neg_mul _ _
    have n2 : -((q : Int) + 1) * D = -((q : Int) * D + D) := by rw [Int.neg_mul, Int.add_mul, Int.one_mul]
    by_cases h0 : 0 < r
    · have f1 : flow (withSign true (q + if decide (0 < r) = true then 1 else 0)) = (-((q : Int) + 1), 0) := by
        rw [if_pos (by simpa using h0)]
        exact flow_in (by simp [withSign] <;> omega) (by simp [withSign] <;> omega)
      have hbig : -9223372036854775808 ≤ -((q : Int) + 1) * D := by
        rw [n2]
        by_cases hq0 : q = 0
        · subst hq0; simp; omega
        · have : (1 : Int) * D ≤ (q : Int) * D := Int.mul_le_mul_of_nonneg_right (by omega) (by omega)
          omega
      by_cases h2 : D ≤ 2 * r
      · have f2 : flow (withSign true (q + if decide (D ≤ 2 * r) = true then 1 else 0)) = (-((q : Int) + 1), 0) := by
          rw [if_pos (by simpa using h2)]
          exact flow_in (by simp [withSign] <;> omega) (by simp [withSign] <;> omega)
        refine ⟨-((q : Int) + 1), -((q : Int) + 1), D - r, r, f1, f2, by omega, ?_, by omega, by omega, hbig, by omega, by omega, by omega, ?_⟩
        · show -(P : Int) = _
          omega
        · show _ ∨ _ ∧ _ ∧ -(P : Int) ≤ 0 ∨ _ ∨ _
          omega
      · have f2 : flow (withSign true (q + if decide (D ≤ 2 * r) = true then 1 else 0)) = (-(q : Int), 0) := by
          rw [if_neg (by simpa using h2)]
          exact flow_in (by simp [withSign] <;> omega) (by simp [withSign] <;> omega)
        refine ⟨-((q : Int) + 1), -(q : Int), D - r, r, f1, f2, by omega, ?_, by omega, by omega, hbig, by omega, by omega, by omega, ?_⟩
        · show -(P : Int) = _
          omega
        · right; right; left; omega
    · have f1 : flow (withSign true (q + if decide (0 < r) = true then 1 else 0)) = (-(q : Int), 0) := by
        rw [if_neg (by simpa using h0)]
        exact flow_in (by simp [withSign] <;> omega) (by simp [withSign] <;> omega)
      have f2 : flow (withSign true (q + if decide (D ≤ 2 * r) = true then 1 else 0)) = (-(q : Int), 0) := by
        rw [if_neg (by simp; omega)]
        exact flow_in (by simp [withSign] <;> omega) (by simp [withSign] <;> omega)
      refine ⟨-(q : Int), -(q : Int), 0, D, f1, f2, by omega, ?_, by omega, by omega, by omega, by omega, by omega, by omega, Or.inl ⟨by omega, rfl⟩⟩
      show -(P : Int) = _
      omega
theorem prod_sign (a b c : Int) : (0 < c → a * b = withSign (sgn a b c) (a.natAbs * b.natAbs)) ∧ (c < 0 → -(a * b) = withSign (sgn a b c) (a.natAbs * b.natAbs)) := by
  obtain ⟨A, hA⟩ : ∃ A, a.natAbs = A := ⟨_, rfl⟩
  obtain ⟨B, hB⟩ : ∃ B, b.natAbs = B := ⟨_, rfl⟩
  rw [hA, hB]
  have ha : a = A ∧ decide (a < 0) = false ∨ a = -A ∧ decide (a < 0) = true := by
    by_cases h : a < 0
    · exact Or.inr ⟨by omega, by simpa using h⟩
    · exact Or.inl ⟨by omega, by simpa using h⟩
  have hb : b = B ∧ decide (b < 0) = false ∨ b = -B ∧ decide (b < 0) = true := by
    by_cases h : b < 0
    · exact Or.inr ⟨by omega, by simpa using h⟩
    · exact Or.inl ⟨by omega, by simpa using h⟩
  have hm : ((A : Int) * B) = ((A * B : Nat) : Int) := (Int.natCast_mul A B).symm
  have sg : sgn a b c = ((decide (a < 0) != decide (b < 0)) != decide (c < 0)) := rfl
  have tp : ∀ n : Nat, withSign true n = -(n : Int) := fun _ => rfl
  have fp : ∀ n : Nat, withSign false n = (n : Int) := fun _ => rfl
  refine ⟨fun hc => ?_, fun hc => ?_⟩
  · have dc : decide (c < 0) = false := by simp; omega
    rcases ha with ⟨e1, h1⟩ | ⟨e1, h1⟩ <;> rcases hb with ⟨e2, h2⟩ | ⟨e2, h2⟩ <;> rw [sg, h1, h2, dc, e1, e2]
    · exact hm
    · rw [Int.mul_neg, hm]; exact (tp _).symm
    · rw [Int.neg_mul, hm]; exact (tp _).symm
    · rw [Int.neg_mul, Int.mul_neg, Int.neg_neg, hm]; exact (fp _).symm
  · have dc : decide (c < 0) = true := by simpa using hc
    rcases ha with ⟨e1, h1⟩ | ⟨e1, h1⟩ <;> rcases hb with ⟨e2, h2⟩ | ⟨e2, h2⟩ <;> rw [sg, h1, h2, dc, e1, e2]
    · rw [hm]; exact (tp _).symm
    · rw [Int.mul_neg, Int.neg_neg, hm]; exact (fp _).symm
    · rw [Int.neg_mul, Int.neg_neg, hm]; exact (fp _).symm
    · rw [Int.neg_mul, Int.mul_neg, Int.neg_neg, hm]; exact (tp _).symm
set_option maxRecDepth 100000 in
theorem Near_idle (a b c : Int) (w : World) (hw : Wf w) (h : c = 0 ∨ c = -9223372036854775808) :
    Calls Tryz.prog 13 #[.int .i32 a, .int .i32 b, .int .i64 c] w fun e w' => e = .returned (.bool true) ∧ Below w.heap.size w w' := by
  rcases h with rfl | rfl
  · go_enter Tryz.func13, Tryz.ntmps13
    go_wp2_with fail
    refine (works_tells _ hw).mono ?_
    rintro e W3 ⟨rfl, b3⟩
    go_wp2
    go_ret
    exact ⟨rfl, b3⟩
  · go_enter Tryz.func13, Tryz.ntmps13
    go_wp2_with fail
    refine (works_tells _ hw).mono ?_
    rintro e W3 ⟨rfl, b3⟩
    go_wp2
    go_ret
    exact ⟨rfl, b3⟩
theorem FixedNear_true (a b c : Int) (ha0 : -2147483648 ≤ a) (ha1 : a ≤ 2147483647) (hb0 : -2147483648 ≤ b) (hb1 : b ≤ 2147483647) (hc0 : -9223372036854775808 ≤ c) (hc1 : c ≤ 9223372036854775807) (w : World) (hw : Wf w) :
    Calls Tryz.prog 13 #[.int .i32 a, .int .i32 b, .int .i64 c] w fun e w' => e = .returned (.bool true) ∧ Below w.heap.size w w' := by
  by_cases hi : c = 0 ∨ c = -9223372036854775808
  · exact Near_idle a b c w hw hi
  have hc : c ≠ 0 := fun h => hi (Or.inl h)
  have hc2 : c ≠ -9223372036854775808 := fun h => hi (Or.inr h)
  have hP : a.natAbs * b.natAbs ≤ 4611686018427387904 := Nat.mul_le_mul (show a.natAbs ≤ 2147483648 by omega) (show b.natAbs ≤ 2147483648 by omega)
  obtain ⟨x, y, R, F, ef, er, eD, eP, r0, f0, m0, m1, x0, x1, hcase⟩ := near_cases (a.natAbs * b.natAbs) c.natAbs (sgn a b c) (by omega) (by omega) hP
  have MD := Lib.hid (fun W => MulDiv_tells a b c (by omega) (by omega) (by omega) (by omega) hc0 hc1 W)
  have RO := Lib.hid (fun W => Round_tells a b c (by omega) (by omega) (by omega) (by omega) hc0 hc1 W)
  have qf : quot a b c false = (x, 0) := by unfold quot magQ; rw [if_neg hc]; exact ef
  have qr : quot a b c true = (y, 0) := by unfold quot magQ; rw [if_neg hc]; exact er
  rw [qf] at MD
  rw [qr] at RO
  have hs := prod_sign a b c
  have hPI : ((a.natAbs * b.natAbs : Nat) : Int) ≤ 4611686018427387904 := by omega
  have hW1 : -4611686018427387904 ≤ withSign (sgn a b c) (a.natAbs * b.natAbs) ∧ withSign (sgn a b c) (a.natAbs * b.natAbs) ≤ 4611686018427387904 := by
    unfold withSign; split <;> omega
  rw [eP] at hs hW1 hcase
  have em : wrap64 (x * (F + R)) = x * c.natAbs := by rw [← eD]; exact w64 m0 m1
  by_cases hp : 0 < c
  · have ep : wrap64 (a * b) = R + x * c.natAbs := by rw [hs.1 hp]; exact w64 (by omega) (by omega)
    have ec : c = F + R := by omega
    generalize x * (c.natAbs : Int) = m at *
    subst ec
    rcases hcase with ⟨h1, h2⟩ | ⟨h1, h2, h3⟩ | ⟨h1, h2⟩ | ⟨h1, h2, h3⟩
    · subst h2
      exact Near_p_low a b _ m R F ha0 ha1 hb0 hb1 w hw MD RO ep em x0 x1 r0 f0 hc1 h1
    · subst h2 h1
      exact Near_p_eql a b _ m _ ha0 ha1 hb0 hb1 w hw MD RO ep em hW1.1 hW1.2 x0 x1 r0 f0 hc1 h3
    · exact Near_p_high a b x m R F y ha0 ha1 hb0 hb1 w hw MD RO ep em h2 x0 x1 r0 f0 hc1 h1
    · subst h1
      exact Near_p_eqh a b x m _ y ha0 ha1 hb0 hb1 w hw MD RO ep em h2 x0 x1 r0 f0 hc1 h3
  · have ep : wrap64 (a * b) = -(R + x * c.natAbs) := by
      have := hs.2 (by omega)
      rw [show a * b = -(R + x * c.natAbs) by omega]
      exact w64 (by omega) (by omega)
    have ec : c = -(F + R) := by omega
    have hd : F + R ≤ 9223372036854775807 := by omega
    generalize x * (c.natAbs : Int) = m at *
    subst ec
    rcases hcase with ⟨h1, h2⟩ | ⟨h1, h2, h3⟩ | ⟨h1, h2⟩ | ⟨h1, h2, h3⟩
    · subst h2
      exact Near_n_low a b _ m R F ha0 ha1 hb0 hb1 w hw MD RO ep em hW1.1 hW1.2 x0 x1 r0 f0 hd h1
    · subst h2 h1
      exact Near_n_eql a b _ m _ ha0 ha1 hb0 hb1 w hw MD RO ep em hW1.1 hW1.2 x0 x1 r0 f0 hd h3
    · exact Near_n_high a b x m R F y ha0 ha1 hb0 hb1 w hw MD RO ep em hW1.1 hW1.2 h2 x0 x1 r0 f0 hd h1
    · subst h1
      exact Near_n_eqh a b x m _ y ha0 ha1 hb0 hb1 w hw MD RO ep em hW1.1 hW1.2 h2 x0 x1 r0 f0 hd h3
end Go.Proofs.YtfhadnhpognefaaGreatDoor.Fx
