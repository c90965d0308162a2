/- All of these functions. -/
import Derived.Test.YtbebdcpakjfgdaaDoorFC2
namespace Go.Proofs.YtbebdcpakjfgdaaDoor
end Go.Proofs.YtbebdcpakjfgdaaDoor
