-- Written by the kit's print.py, called with a list of functions of this session's choice.
import Derived.Test.YtfhadnhpognefaaGreatDoorPRefx0
import Derived.Test.YtfhadnhpognefaaGreatDoorPRefx1
import Derived.Test.YtfhadnhpognefaaGreatDoorPRefx2
import Derived.Test.YtfhadnhpognefaaGreatDoorPRefx3
import Derived.Test.YtfhadnhpognefaaGreatDoorPRefx4
import Derived.Test.YtfhadnhpognefaaGreatDoorPRefx5
import Derived.Test.YtfhadnhpognefaaGreatDoorPRefx6
import Derived.Test.YtfhadnhpognefaaGreatDoorPRefx7
namespace Go.Proofs.YtfhadnhpognefaaGreatDoor.PRef
open Go.RowKit Go.Proofs.YtfhadnhpognefaaGreatDoorW.PrintWords Go.Proofs.YtfhadnhpognefaaGreatDoorW.PrintLast Go.Proofs.YtfhadnhpognefaaGreatDoorW.PrintMore
attribute [local go_sem] max2_int min2_int max_two min_two max_three min_three max_four min_four   -- for this text's walks alone
set_option linter.unusedVariables false
set_option linter.unusedSimpArgs false

end Go.Proofs.YtfhadnhpognefaaGreatDoor.PRef
