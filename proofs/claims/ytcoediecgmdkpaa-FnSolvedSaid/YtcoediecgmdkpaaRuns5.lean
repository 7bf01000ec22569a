/-
  The runs of 'FnSolved' and of what it calls, on symbols. Conditions: none.
-/
import Derived.Test.YtcoediecgmdkpaaTable5
namespace Go.Proofs.Ytcoediecgmdkpaa
open Go.Sx

/-- The cells of the heavy matrix. -/
def isHeavy (v : V) (_ : Facts) : Bool := isCells heavyL v
set_option maxRecDepth 100000 in
theorem run_heavy : runA Try.prog heavyS 100 5 [.opq 0] [] isHeavy = true := by kernel_rfl

set_option maxRecDepth 100000 in
theorem run_main_0 : runA Try.prog (solS 0) 300 3 [.opq 0, .opq 1] mainFacts isTrue = true := by kernel_rfl

set_option maxRecDepth 100000 in
theorem run_main_1 : runA Try.prog (solS 1) 300 3 [.opq 0, .opq 1] mainFacts isTrue = true := by kernel_rfl

set_option maxRecDepth 100000 in
theorem run_main_2 : runA Try.prog (solS 2) 300 3 [.opq 0, .opq 1] mainFacts isTrue = true := by kernel_rfl

end Go.Proofs.Ytcoediecgmdkpaa
