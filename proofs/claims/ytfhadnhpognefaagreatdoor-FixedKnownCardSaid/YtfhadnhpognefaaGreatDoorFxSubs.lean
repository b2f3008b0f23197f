/- Contracts of the program's own functions in the form of the printed ones: under what is read of the variables. -/
import Derived.Test.YtfhadnhpognefaaGreatDoorFxWorks
import Derived.Test.YtfhadnhpognefaaGreatDoorPRefx
namespace Go.Proofs.YtfhadnhpognefaaGreatDoor.PRef
open Go Go.RowKit Go.Proofs.YtfhadnhpognefaaGreatDoorW.PrintWords Go.Proofs.YtfhadnhpognefaaGreatDoor.Fx

def fixed_Read.f (_ : Nat) (a0 : ByteArray) : Option (Int × Int) := if a0.size ≤ 100000 then some (read a0.data.toList) else none
theorem fixed_Read.mono : ∀ a0 k, LeO (fixed_Read.f k a0) (fixed_Read.f (k + 1) a0) := fun _ _ => LeO.refl _
theorem fixed_Read.calls (k : Nat) (a0 : ByteArray) (r1 r2 : Int) (w : World) (h : fixed_Read.f k a0 = some (r1, r2)) (hw : Wf w) :
    Calls Tryz.prog 8 #[.string a0] w fun e w' => e = .returned (.tuple #[.int .i64 r1, .int .i64 r2]) ∧ Below w.heap.size w w' := by
  unfold fixed_Read.f at h
  by_cases hs : a0.size ≤ 100000
  · rw [if_pos hs] at h
    have e := Option.some.inj h
    refine (Read_tells a0 hs w hw).mono ?_
    rintro _ w' ⟨rfl, hb⟩
    rw [e]
    exact ⟨rfl, hb⟩
  · rw [if_neg hs] at h
    cases h
def calamuslaw01_works.f (_ : Nat) : Option Bool := some true
theorem calamuslaw01_works.mono : ∀ k, LeO (calamuslaw01_works.f k) (calamuslaw01_works.f (k + 1)) := fun _ => LeO.refl _
theorem calamuslaw01_works.calls (k : Nat) (r : Bool) (w : World) (h : calamuslaw01_works.f k = some r) (hw : Wf w) :
    Calls Tryz.prog 14 #[] w fun e w' => e = .returned (.bool r) ∧ Below w.heap.size w w' := by
  obtain rfl := Option.some.inj h
  exact works_tells w hw
end Go.Proofs.YtfhadnhpognefaaGreatDoor.PRef
