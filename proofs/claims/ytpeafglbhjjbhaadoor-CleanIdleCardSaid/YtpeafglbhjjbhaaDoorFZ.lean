/- All of these functions. -/
import Derived.Test.YtpeafglbhjjbhaaDoorFC2
namespace Go.Proofs.YtpeafglbhjjbhaaDoor
end Go.Proofs.YtpeafglbhjjbhaaDoor

