-- Written by the kit's print.py, called with a list of functions of this session's choice.
import Derived.Test.YtfachciaaghgnaaDoorPRefx0
import Derived.Test.YtfachciaaghgnaaDoorPRefx1
import Derived.Test.YtfachciaaghgnaaDoorPRefx2
import Derived.Test.YtfachciaaghgnaaDoorPRefx3
import Derived.Test.YtfachciaaghgnaaDoorPRefx4
import Derived.Test.YtfachciaaghgnaaDoorPRefx5
import Derived.Test.YtfachciaaghgnaaDoorPRefx6
import Derived.Test.YtfachciaaghgnaaDoorPRefx7
namespace Go.Proofs.YtfachciaaghgnaaDoor.PRef
open Go.RowKit Go.Proofs.YtfachciaaghgnaaDoorW.PrintWords Go.Proofs.YtfachciaaghgnaaDoorW.PrintLast Go.Proofs.YtfachciaaghgnaaDoorW.PrintMore
attribute [local go_sem] max2_int min2_int max_two min_two max_three min_three max_four min_four   -- for this text's walks alone
set_option linter.unusedVariables false
set_option linter.unusedSimpArgs false

end Go.Proofs.YtfachciaaghgnaaDoor.PRef
