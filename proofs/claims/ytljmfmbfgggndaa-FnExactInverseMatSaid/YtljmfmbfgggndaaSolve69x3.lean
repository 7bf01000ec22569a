/-
  A run on symbols of function 69 against the tree of the elimination: one case of the pivots. Conditions: none.
-/
import Derived.Test.YtljmfmbfgggndaaKnown
import Derived.Test.YtljmfmbfgggndaaSx23
namespace Go.Proofs.Ytljmfmbfgggndaa
open Go.Sx

set_option maxRecDepth 100000 in
theorem solve69x3 : runA Try.prog known 100 69 [.agg (protoL 0 9), .agg (protoL 9 3)] (pivFacts false true true) (treeOut solveTree) = true := by kernel_rfl

end Go.Proofs.Ytljmfmbfgggndaa
