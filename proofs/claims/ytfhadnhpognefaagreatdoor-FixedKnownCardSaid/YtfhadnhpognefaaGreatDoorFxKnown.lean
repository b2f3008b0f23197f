/- The chapter's examples and edges: the closed law returns true. -/
import Derived.Test.YtfhadnhpognefaaGreatDoorPKnown
namespace Go.Proofs.YtfhadnhpognefaaGreatDoor.Fx
open Go Go.RowKit Go.Proofs.YtfhadnhpognefaaGreatDoorW.PrintWords Go.Proofs.YtfhadnhpognefaaGreatDoor.PRef

theorem Known_some : calamuslaw01_FixedKnown.f 3000 = some true := by decide +kernel
theorem FixedKnown_true (w : World) (hw : Wf w) :
    Calls Tryz.prog 3 #[] w fun e w' => e = .returned (.bool true) ∧ Below w.heap.size w w' :=
  calamuslaw01_FixedKnown.calls 3000 true w Known_some hw
end Go.Proofs.YtfhadnhpognefaaGreatDoor.Fx
