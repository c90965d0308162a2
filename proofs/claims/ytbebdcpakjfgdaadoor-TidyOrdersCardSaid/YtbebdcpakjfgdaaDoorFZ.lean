/- All of these functions. -/
import Derived.Test.YtbebdcpakjfgdaaDoorFC3
namespace Go.Proofs.YtbebdcpakjfgdaaDoor
end Go.Proofs.YtbebdcpakjfgdaaDoor

