/- Any number is printed as the document says, and read as itself: the program's law on it returns true. -/
import Derived.Test.YtfhadnhpognefaaGreatDoorFxLaws
import Derived.Test.YtfhadnhpognefaaGreatDoorFxRefPrint
namespace Go.Proofs.YtfhadnhpognefaaGreatDoor.Fx
open Go Go.RowKit Go.Proofs.YtfhadnhpognefaaGreatDoorW.PrintWords Go.Proofs.YtfhadnhpognefaaGreatDoor.PRef

theorem refPrint_tells (n : Int) (h0 : -9223372036854775808 ≤ n) (h1 : n ≤ 9223372036854775807) (w : World) :
    Calls Tryz.prog 40 #[.int .i64 n] w fun e w' => e = .returned (.string (tx (print n))) ∧ Below w.heap.size w w' := by
  obtain ⟨k, hk⟩ := Print_ev n h0 h1
  exact (calamusref01_Print.calls k n _ w hk).mono fun _ _ h => ⟨h.1, drawn_below h.2⟩
theorem Prints_walk (n : Int) (t : ByteArray) (w : World) (hw : Wf w)
    (PR : Hid (∀ W, Wf W → Calls Tryz.prog 6 #[.int .i64 n] W fun e w' => e = .returned (.string t) ∧ Below W.heap.size W w'))
    (RD : Hid (∀ W, Wf W → Calls Tryz.prog 8 #[.string t] W fun e w' => e = .returned (.tuple #[.int .i64 n, .int .i64 0]) ∧ Below W.heap.size W w'))
    (RP : Hid (∀ W, Calls Tryz.prog 40 #[.int .i64 n] W fun e w' => e = .returned (.string t) ∧ Below W.heap.size W w')) :
    Calls Tryz.prog 12 #[.int .i64 n] w fun e w' => e = .returned (.bool true) ∧ Below w.heap.size w w' := by
  have HW := Lib.hid hw
  clear hw
  go_enter Tryz.func12, Tryz.ntmps12
  go_wp2_with fail
  refine (PR.out _ HW.out).mono ?_
  rintro e W1 ⟨rfl, b1⟩
  have c1 := Lib.hid b1
  clear b1
  go_wp2_with fail
  refine (RD.out _ (HW.out.below c1.out)).mono ?_
  rintro e W2 ⟨rfl, b2⟩
  have c2 := Lib.hid (c1.out.trans (b2.mono c1.out.size))
  clear b2
  go_wp2_with fail
  refine (RP.out _).mono ?_
  rintro e W3 ⟨rfl, b3⟩
  have c3 := Lib.hid (c2.out.trans (b3.mono c2.out.size))
  clear b3
  go_wp2_with fail
  refine (works_tells _ (HW.out.below c3.out)).mono ?_
  rintro e W4 ⟨rfl, b4⟩
  have c4 := Lib.hid (c3.out.trans (b4.mono c3.out.size))
  clear b4
  go_wp2
  go_ret
  exact ⟨rfl, c4.out⟩
theorem print_short (n : Int) (h0 : -9223372036854775808 ≤ n) (h1 : n ≤ 9223372036854775807) : (print n).length ≤ 40 := by
  have wl := digits_len (n.natAbs / 65536) (by omega)
  have pl := (frac_val 16 (n.natAbs % 65536) (by omega) (by omega)).2.2
  unfold print sign point
  simp only [List.length_append]
  split <;> split <;> simp <;> omega
theorem FixedPrints_true (n : Int) (h0 : -9223372036854775808 ≤ n) (h1 : n ≤ 9223372036854775807) (w : World) (hw : Wf w) :
    Calls Tryz.prog 12 #[.int .i64 n] w fun e w' => e = .returned (.bool true) ∧ Below w.heap.size w w' := by
  refine Prints_walk n (tx (print n)) w hw (Lib.hid (fun W hW => Print_tells n h0 h1 W hW.tab)) (Lib.hid (fun W hW => ?_)) (Lib.hid (fun W => refPrint_tells n h0 h1 W))
  have := Read_tells (tx (print n)) (by rw [tx_size]; have := print_short n h0 h1; omega) W hW
  rw [tx_data, read_print n h0 h1] at this
  exact this
end Go.Proofs.YtfhadnhpognefaaGreatDoor.Fx
