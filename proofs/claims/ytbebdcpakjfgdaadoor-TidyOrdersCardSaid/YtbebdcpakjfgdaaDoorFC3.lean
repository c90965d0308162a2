/- Functions (printed by wip/auto/am.py). -/
import Derived.Test.YtbebdcpakjfgdaaDoorFC2
namespace Go.Proofs.YtbebdcpakjfgdaaDoor
open Go Go.RowKit

end Go.Proofs.YtbebdcpakjfgdaaDoor

