/- The short calls that stand in each law return true. -/
import Derived.Test.YtfhadnhpognefaaGreatDoorFxReads
namespace Go.Proofs.YtfhadnhpognefaaGreatDoor.Fx
open Go Go.RowKit

theorem works_tells (w : World) (hw : Wf w) :
    Calls Tryz.prog 14 #[] w fun e w' => e = .returned (.bool true) ∧ Below w.heap.size w w' := by
  have e1 : quot (-7) 1 2 false = (-4, 0) := by decide +kernel
  have e2 : read [49, 46, 53] = (98304, 0) := by decide +kernel
  have M := Lib.hid (fun W => MulDiv_tells (-7) 1 2 (by decide) (by decide) (by decide) (by decide) (by decide) (by decide) W)
  rw [e1] at M
  have R : Hid (∀ W, Wf W → Calls Tryz.prog 8 #[.string ⟨#[49, 46, 53]⟩] W fun e w' => e = .returned (.tuple #[.int .i64 98304, .int .i64 0]) ∧ Below W.heap.size W w') := fun W hW => by
    have := Read_tells ⟨#[49, 46, 53]⟩ (by decide) W hW
    rw [show (⟨#[49, 46, 53]⟩ : ByteArray).data.toList = [49, 46, 53] from rfl, e2] at this
    exact this
  have P := Lib.hid (fun W (hW : Wf W) => Print_tells (-1) (by decide) (by decide) W hW.tab)
  have e3 : (print (-1)).toArray = #[45, 48, 46, 48, 48, 48, 48, 49, 53, 50, 53, 56, 55, 56, 57, 48, 54, 50, 53] := by decide +kernel
  rw [e3] at P
  have HW := Lib.hid hw
  clear hw e1 e2 e3
  go_enter Tryz.func14, Tryz.ntmps14
  go_wp2_with fail
  refine (M.out _).mono ?_
  rintro e W1 ⟨rfl, b1⟩
  go_wp2_with fail
  refine (R.out _ (HW.out.below b1)).mono ?_
  rintro e W2 ⟨rfl, b2⟩
  have c2 := Lib.hid (b1.trans (b2.mono b1.size))
  clear b1 b2
  go_wp2_with fail
  refine (P.out _ (HW.out.below c2.out)).mono ?_
  rintro e W3 ⟨rfl, b3⟩
  have c3 := Lib.hid (c2.out.trans (b3.mono c2.out.size))
  clear b3
  go_wp2
  go_ret
  exact ⟨rfl, c3.out⟩

end Go.Proofs.YtfhadnhpognefaaGreatDoor.Fx
