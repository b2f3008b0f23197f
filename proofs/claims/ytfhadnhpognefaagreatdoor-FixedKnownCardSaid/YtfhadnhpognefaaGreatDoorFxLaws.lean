/- The laws of sums, quotients and scales, and the short calls that stand in each law: each returns true. -/
import Derived.Test.YtfhadnhpognefaaGreatDoorFxReads
import Derived.Test.YtfhadnhpognefaaGreatDoorFxSum
namespace Go.Proofs.YtfhadnhpognefaaGreatDoor.Fx
open Go Go.RowKit

theorem works_tells (w : World) (hw : Wf w) :
    Calls Tryz.prog 14 #[] w fun e w' => e = .returned (.bool true) ∧ Below w.heap.size w w' := by
  have e1 : quot (-7) 1 2 false = (-4, 0) := by decide +kernel
  have e2 : read [49, 46, 53] = (98304, 0) := by decide +kernel
  have M := Lib.hid (fun W => MulDiv_tells (-7) 1 2 (by decide) (by decide) (by decide) (by decide) (by decide) (by decide) W)
  rw [e1] at M
  have R : Hid (∀ W, Wf W → Calls Tryz.prog 8 #[.string ⟨#[49, 46, 53]⟩] W fun e w' => e = .returned (.tuple #[.int .i64 98304, .int .i64 0]) ∧ Below W.heap.size W w') := fun W hW => by
    have := Read_tells ⟨#[49, 46, 53]⟩ (by decide) W hW
    rw [show (⟨#[49, 46, 53]⟩ : ByteArray).data.toList = [49, 46, 53] from rfl, e2] at this
    exact this
  have P := Lib.hid (fun W (hW : Wf W) => Print_tells (-1) (by decide) (by decide) W hW.tab)
  have e3 : (print (-1)).toArray = #[45, 48, 46, 48, 48, 48, 48, 49, 53, 50, 53, 56, 55, 56, 57, 48, 54, 50, 53] := by decide +kernel
  rw [e3] at P
  have HW := Lib.hid hw
  clear hw e1 e2 e3
  go_enter Tryz.func14, Tryz.ntmps14
  go_wp2_with fail
  refine (M.out _).mono ?_
  rintro e W1 ⟨rfl, b1⟩
  go_wp2_with fail
  refine (R.out _ (HW.out.below b1)).mono ?_
  rintro e W2 ⟨rfl, b2⟩
  have c2 := Lib.hid (b1.trans (b2.mono b1.size))
  clear b1 b2
  go_wp2_with fail
  refine (P.out _ (HW.out.below c2.out)).mono ?_
  rintro e W3 ⟨rfl, b3⟩
  have c3 := Lib.hid (c2.out.trans (b3.mono c2.out.size))
  clear b3
  go_wp2
  go_ret
  exact ⟨rfl, c3.out⟩

theorem Sums_in (a b u g : Int) (w : World) (hw : Wf w)
    (AD : Hid (∀ W, Calls Tryz.prog 34 #[.int .i64 a, .int .i64 b] W fun e w' => e = .returned (.tuple #[.int .i64 (a + b), .int .i64 0]) ∧ Below W.heap.size W w'))
    (RA : Hid (∀ W, Calls Tryz.prog 35 #[.int .i64 a, .int .i64 b] W fun e w' => e = .returned (.tuple #[.int .i64 (a + b), .int .i64 0]) ∧ Below W.heap.size W w'))
    (SU : Hid (∀ W, Calls Tryz.prog 36 #[.int .i64 a, .int .i64 b] W fun e w' => e = .returned (.tuple #[.int .i64 u, .int .i64 g]) ∧ Below W.heap.size W w'))
    (RS : Hid (∀ W, Calls Tryz.prog 37 #[.int .i64 a, .int .i64 b] W fun e w' => e = .returned (.tuple #[.int .i64 u, .int .i64 g]) ∧ Below W.heap.size W w'))
    (S2 : Hid (∀ W, Calls Tryz.prog 36 #[.int .i64 (a + b), .int .i64 b] W fun e w' => e = .returned (.tuple #[.int .i64 a, .int .i64 0]) ∧ Below W.heap.size W w')) :
    Calls Tryz.prog 10 #[.int .i64 a, .int .i64 b] w fun e w' => e = .returned (.bool true) ∧ Below w.heap.size w w' := by
  have HW := Lib.hid hw
  clear hw
  go_enter Tryz.func10, Tryz.ntmps10
  go_wp2_with fail
  refine (AD.out _).mono ?_
  rintro e W1 ⟨rfl, b1⟩
  have c1 := Lib.hid b1
  clear b1
  go_wp2_with fail
  refine (RA.out _).mono ?_
  rintro e W2 ⟨rfl, b2⟩
  have c2 := Lib.hid (c1.out.trans (b2.mono c1.out.size))
  clear b2
  go_wp2_with fail
  refine (SU.out _).mono ?_
  rintro e W3 ⟨rfl, b3⟩
  have c3 := Lib.hid (c2.out.trans (b3.mono c2.out.size))
  clear b3
  go_wp2_with fail
  refine (RS.out _).mono ?_
  rintro e W4 ⟨rfl, b4⟩
  have c4 := Lib.hid (c3.out.trans (b4.mono c3.out.size))
  clear b4
  go_wp2_with fail
  refine (S2.out _).mono ?_
  rintro e W5 ⟨rfl, b5⟩
  have c5 := Lib.hid (c4.out.trans (b5.mono c4.out.size))
  clear b5
  go_wp2_with fail
  refine (works_tells _ (HW.out.below c5.out)).mono ?_
  rintro e W6 ⟨rfl, b6⟩
  have c6 := Lib.hid (c5.out.trans (b6.mono c5.out.size))
  clear b6
  go_wp2
  go_ret
  exact ⟨rfl, c6.out⟩
theorem Sums_out (a b u g p q : Int) (w : World) (hw : Wf w)
    (AD : Hid (∀ W, Calls Tryz.prog 34 #[.int .i64 a, .int .i64 b] W fun e w' => e = .returned (.tuple #[.int .i64 0, .int .i64 10]) ∧ Below W.heap.size W w'))
    (RA : Hid (∀ W, Calls Tryz.prog 35 #[.int .i64 a, .int .i64 b] W fun e w' => e = .returned (.tuple #[.int .i64 0, .int .i64 10]) ∧ Below W.heap.size W w'))
    (SU : Hid (∀ W, Calls Tryz.prog 36 #[.int .i64 a, .int .i64 b] W fun e w' => e = .returned (.tuple #[.int .i64 u, .int .i64 g]) ∧ Below W.heap.size W w'))
    (RS : Hid (∀ W, Calls Tryz.prog 37 #[.int .i64 a, .int .i64 b] W fun e w' => e = .returned (.tuple #[.int .i64 u, .int .i64 g]) ∧ Below W.heap.size W w'))
    (S2 : Hid (∀ W, Calls Tryz.prog 36 #[.int .i64 0, .int .i64 b] W fun e w' => e = .returned (.tuple #[.int .i64 p, .int .i64 q]) ∧ Below W.heap.size W w')) :
    Calls Tryz.prog 10 #[.int .i64 a, .int .i64 b] w fun e w' => e = .returned (.bool true) ∧ Below w.heap.size w w' := by
  have HW := Lib.hid hw
  clear hw
  go_enter Tryz.func10, Tryz.ntmps10
  go_wp2_with fail
  refine (AD.out _).mono ?_
  rintro e W1 ⟨rfl, b1⟩
  have c1 := Lib.hid b1
  clear b1
  go_wp2_with fail
  refine (RA.out _).mono ?_
  rintro e W2 ⟨rfl, b2⟩
  have c2 := Lib.hid (c1.out.trans (b2.mono c1.out.size))
  clear b2
  go_wp2_with fail
  refine (SU.out _).mono ?_
  rintro e W3 ⟨rfl, b3⟩
  have c3 := Lib.hid (c2.out.trans (b3.mono c2.out.size))
  clear b3
  go_wp2_with fail
  refine (RS.out _).mono ?_
  rintro e W4 ⟨rfl, b4⟩
  have c4 := Lib.hid (c3.out.trans (b4.mono c3.out.size))
  clear b4
  go_wp2_with fail
  refine (S2.out _).mono ?_
  rintro e W5 ⟨rfl, b5⟩
  have c5 := Lib.hid (c4.out.trans (b5.mono c4.out.size))
  clear b5
  go_wp2_with fail
  refine (works_tells _ (HW.out.below c5.out)).mono ?_
  rintro e W6 ⟨rfl, b6⟩
  have c6 := Lib.hid (c5.out.trans (b6.mono c5.out.size))
  clear b6
  go_wp2
  go_ret
  exact ⟨rfl, c6.out⟩
theorem FixedSums_true (a b : Int) (ha0 : -9223372036854775808 ≤ a) (ha1 : a ≤ 9223372036854775807) (hb0 : -9223372036854775808 ≤ b) (hb1 : b ≤ 9223372036854775807) (w : World) (hw : Wf w) :
    Calls Tryz.prog 10 #[.int .i64 a, .int .i64 b] w fun e w' => e = .returned (.bool true) ∧ Below w.heap.size w w' := by
  have AD := Lib.hid (fun W => Add_tells a b ha0 ha1 hb0 hb1 W)
  have RA := Lib.hid (fun W => refAdd_tells a b ha0 ha1 hb0 hb1 W)
  have SU := Lib.hid (fun W => Sub_tells a b ha0 ha1 hb0 hb1 W)
  have RS := Lib.hid (fun W => refSub_tells a b ha0 ha1 hb0 hb1 W)
  by_cases h : -9223372036854775808 ≤ a + b ∧ a + b ≤ 9223372036854775807
  · rw [flow_in h.1 h.2] at AD RA
    have S2 := Lib.hid (fun W => Sub_tells (a + b) b h.1 h.2 hb0 hb1 W)
    rw [show a + b - b = a by omega, flow_in ha0 ha1] at S2
    exact Sums_in a b _ _ w hw AD RA SU RS S2
  · rw [flow_over (by omega)] at AD RA
    have S2 := Lib.hid (fun W => Sub_tells 0 b (by decide) (by decide) hb0 hb1 W)
    exact Sums_out a b _ _ _ _ w hw AD RA SU RS S2
theorem Quotients_walk (a b c x y u v : Int) (w : World) (hw : Wf w)
    (MD : Hid (∀ W, Calls Tryz.prog 5 #[.int .i64 a, .int .i64 b, .int .i64 c] W fun e w' => e = .returned (.tuple #[.int .i64 x, .int .i64 y]) ∧ Below W.heap.size W w'))
    (RM : Hid (∀ W, Calls Tryz.prog 32 #[.int .i64 a, .int .i64 b, .int .i64 c] W fun e w' => e = .returned (.tuple #[.int .i64 x, .int .i64 y]) ∧ Below W.heap.size W w'))
    (RO : Hid (∀ W, Calls Tryz.prog 4 #[.int .i64 a, .int .i64 b, .int .i64 c] W fun e w' => e = .returned (.tuple #[.int .i64 u, .int .i64 v]) ∧ Below W.heap.size W w'))
    (RR : Hid (∀ W, Calls Tryz.prog 33 #[.int .i64 a, .int .i64 b, .int .i64 c] W fun e w' => e = .returned (.tuple #[.int .i64 u, .int .i64 v]) ∧ Below W.heap.size W w')) :
    Calls Tryz.prog 9 #[.int .i64 a, .int .i64 b, .int .i64 c] w fun e w' => e = .returned (.bool true) ∧ Below w.heap.size w w' := by
  have HW := Lib.hid hw
  clear hw
  go_enter Tryz.func9, Tryz.ntmps9
  go_wp2_with fail
  refine (MD.out _).mono ?_
  rintro e W1 ⟨rfl, b1⟩
  have c1 := Lib.hid b1
  clear b1
  go_wp2_with fail
  refine (RM.out _).mono ?_
  rintro e W2 ⟨rfl, b2⟩
  have c2 := Lib.hid (c1.out.trans (b2.mono c1.out.size))
  clear b2
  go_wp2_with fail
  refine (RO.out _).mono ?_
  rintro e W3 ⟨rfl, b3⟩
  have c3 := Lib.hid (c2.out.trans (b3.mono c2.out.size))
  clear b3
  go_wp2_with fail
  refine (RR.out _).mono ?_
  rintro e W4 ⟨rfl, b4⟩
  have c4 := Lib.hid (c3.out.trans (b4.mono c3.out.size))
  clear b4
  go_wp2_with fail
  refine (works_tells _ (HW.out.below c4.out)).mono ?_
  rintro e W5 ⟨rfl, b5⟩
  have c5 := Lib.hid (c4.out.trans (b5.mono c4.out.size))
  clear b5
  go_wp2
  go_ret
  exact ⟨rfl, c5.out⟩
theorem FixedQuotients_true (a b c : Int) (ha0 : -9223372036854775808 ≤ a) (ha1 : a ≤ 9223372036854775807) (hb0 : -9223372036854775808 ≤ b) (hb1 : b ≤ 9223372036854775807) (hc0 : -9223372036854775808 ≤ c) (hc1 : c ≤ 9223372036854775807) (w : World) (hw : Wf w) :
    Calls Tryz.prog 9 #[.int .i64 a, .int .i64 b, .int .i64 c] w fun e w' => e = .returned (.bool true) ∧ Below w.heap.size w w' :=
  Quotients_walk a b c _ _ _ _ w hw (Lib.hid (fun W => MulDiv_tells a b c ha0 ha1 hb0 hb1 hc0 hc1 W)) (Lib.hid (fun W => refMulDiv_tells a b c ha0 ha1 hb0 hb1 hc0 hc1 W)) (Lib.hid (fun W => Round_tells a b c ha0 ha1 hb0 hb1 hc0 hc1 W)) (Lib.hid (fun W => refRound_tells a b c ha0 ha1 hb0 hb1 hc0 hc1 W))
theorem Scales_walk (a b c x y u v : Int) (w : World) (hw : Wf w)
    (RA : Hid (∀ W, Calls Tryz.prog 38 #[.int .i64 a, .int .i64 b] W fun e w' => e = .returned (.tuple #[.int .i64 x, .int .i64 y]) ∧ Below W.heap.size W w'))
    (RR : Hid (∀ W, Calls Tryz.prog 33 #[.int .i64 a, .int .i64 65536, .int .i64 b] W fun e w' => e = .returned (.tuple #[.int .i64 x, .int .i64 y]) ∧ Below W.heap.size W w'))
    (SC : Hid (∀ W, Calls Tryz.prog 39 #[.int .i64 a, .int .i64 b, .int .u16 c] W fun e w' => e = .returned (.tuple #[.int .i64 u, .int .i64 v]) ∧ Below W.heap.size W w'))
    (RS : Hid (∀ W, Calls Tryz.prog 33 #[.int .i64 a, .int .i64 b, .int .i64 c] W fun e w' => e = .returned (.tuple #[.int .i64 u, .int .i64 v]) ∧ Below W.heap.size W w')) (hc0 : 0 ≤ c) (hc1 : c < 65536) :
    Calls Tryz.prog 11 #[.int .i64 a, .int .i64 b, .int .u16 c] w fun e w' => e = .returned (.bool true) ∧ Below w.heap.size w w' := by
  have HW := Lib.hid hw
  clear hw
  go_enter Tryz.func11, Tryz.ntmps11
  go_wp2_with fail
  refine (RA.out _).mono ?_
  rintro e W1 ⟨rfl, b1⟩
  have c1 := Lib.hid b1
  clear b1
  go_wp2_with fail
  refine (RR.out _).mono ?_
  rintro e W2 ⟨rfl, b2⟩
  have c2 := Lib.hid (c1.out.trans (b2.mono c1.out.size))
  clear b2
  go_wp2_with fail
  refine (SC.out _).mono ?_
  rintro e W3 ⟨rfl, b3⟩
  have c3 := Lib.hid (c2.out.trans (b3.mono c2.out.size))
  clear b3
  go_wp2_with fail
  refine (RS.out _).mono ?_
  rintro e W4 ⟨rfl, b4⟩
  have c4 := Lib.hid (c3.out.trans (b4.mono c3.out.size))
  clear b4
  go_wp2_with fail
  refine (works_tells _ (HW.out.below c4.out)).mono ?_
  rintro e W5 ⟨rfl, b5⟩
  have c5 := Lib.hid (c4.out.trans (b5.mono c4.out.size))
  clear b5
  go_wp2
  go_ret
  exact ⟨rfl, c5.out⟩
theorem FixedScales_true (a b c : Int) (ha0 : -9223372036854775808 ≤ a) (ha1 : a ≤ 9223372036854775807) (hb0 : -9223372036854775808 ≤ b) (hb1 : b ≤ 9223372036854775807) (hc0 : 0 ≤ c) (hc1 : c < 65536) (w : World) (hw : Wf w) :
    Calls Tryz.prog 11 #[.int .i64 a, .int .i64 b, .int .u16 c] w fun e w' => e = .returned (.bool true) ∧ Below w.heap.size w w' :=
  Scales_walk a b c _ _ _ _ w hw (Lib.hid (fun W => Ratio_tells a b ha0 ha1 hb0 hb1 W)) (Lib.hid (fun W => refRound_tells a 65536 b ha0 ha1 (by decide) (by decide) hb0 hb1 W)) (Lib.hid (fun W => Scale_tells a b c ha0 ha1 hb0 hb1 hc0 hc1 W)) (Lib.hid (fun W => refRound_tells a b c ha0 ha1 hb0 hb1 (by omega) (by omega) W)) hc0 hc1
end Go.Proofs.YtfhadnhpognefaaGreatDoor.Fx
