/- One more short name. -/
import Derived.Test.YtecojcpccglelaaDoorSz
namespace Go.Proofs.YtecojcpccglelaaDoor.PAll
theorem z8 : ((0 : Int)).toNat = 0 := rfl
end Go.Proofs.YtecojcpccglelaaDoor.PAll
