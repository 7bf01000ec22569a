/-
  The runs of 'FnSolved' and of what it calls, on symbols. Conditions: none.
-/
import Derived.Test.YtcoediecgmdkpaaTable5
namespace Go.Proofs.Ytcoediecgmdkpaa
open Go.Sx

set_option maxRecDepth 100000 in
theorem run_impl_root : runA Try.prog known 200 19 (([sL] : List (List T)).map fun l => .agg (cells l)) (rootFacts) (isTup (rootL) 0) = true := by kernel_rfl

set_option maxRecDepth 100000 in
theorem run_spec_root : runA Try.prog known 200 20 (([sL] : List (List T)).map fun l => .agg (cells l)) (rootFacts) (isTup (rootL) 0) = true := by kernel_rfl

end Go.Proofs.Ytcoediecgmdkpaa
