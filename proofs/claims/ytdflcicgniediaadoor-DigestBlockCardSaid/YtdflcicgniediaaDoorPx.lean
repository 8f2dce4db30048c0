-- printed by wip/tools/oprint.py over the kit's print.py: this session's own program
import Derived.Test.YtdflcicgniediaaDoorPx0
import Derived.Test.YtdflcicgniediaaDoorPx1
import Derived.Test.YtdflcicgniediaaDoorPx2
import Derived.Test.YtdflcicgniediaaDoorPx3
import Derived.Test.YtdflcicgniediaaDoorPx4
namespace Go.Proofs.YtdflcicgniediaaDoor.P
open Go.RowKit Go.Proofs.YtdflcicgniediaaDoorW.PrintWords Go.Proofs.YtdflcicgniediaaDoorW.PrintLast Go.Proofs.YtdflcicgniediaaDoorW.PrintMore
attribute [local go_sem] max2_int min2_int max_two min_two max_three min_three max_four min_four   -- for this text's walks alone
set_option linter.unusedVariables false
set_option linter.unusedSimpArgs false
open Go.Proofs.YtdflcicgniediaaDoor.Dg

end Go.Proofs.YtdflcicgniediaaDoor.P
