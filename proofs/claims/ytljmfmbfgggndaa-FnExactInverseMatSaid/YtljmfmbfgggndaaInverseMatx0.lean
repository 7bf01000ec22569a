/-
  The run on symbols of 'FnExactInverseMat': one case of the pivots. Conditions: none.
-/
import Derived.Test.YtljmfmbfgggndaaKnownS
import Derived.Test.YtljmfmbfgggndaaSx24
namespace Go.Proofs.Ytljmfmbfgggndaa.fnExactInverseMat
open Go.Sx

set_option maxRecDepth 100000 in
theorem ran0 : runA Try.prog knownS 100 16 (argsV Try.prog 0 Try.f16.params.toList) (pivFacts false false false) isTrue = true := by kernel_rfl

end Go.Proofs.Ytljmfmbfgggndaa.fnExactInverseMat
