/-
  The runs of 'FnSolved' and of what it calls, on symbols. Conditions: none.
-/
import Derived.Test.YtcoediecgmdkpaaTable5
namespace Go.Proofs.Ytcoediecgmdkpaa
open Go.Sx

set_option maxRecDepth 100000 in
theorem run_impl_v : runA Try.prog known 200 7 (([mL, vL] : List (List T)).map fun l => .agg (cells l)) (solveFacts (.arg 9) (.arg 10) (.arg 11)) (isTup (solL (.arg 9) (.arg 10) (.arg 11)) 0) = true := by kernel_rfl

set_option maxRecDepth 100000 in
theorem run_impl_0 : runA Try.prog known 200 7 (([mL, unitL 0] : List (List T)).map fun l => .agg (cells l)) (solveFacts l1 l0 l0) (isTup (solL l1 l0 l0) 0) = true := by kernel_rfl

set_option maxRecDepth 100000 in
theorem run_impl_1 : runA Try.prog known 200 7 (([mL, unitL 1] : List (List T)).map fun l => .agg (cells l)) (solveFacts l0 l1 l0) (isTup (solL l0 l1 l0) 0) = true := by kernel_rfl

set_option maxRecDepth 100000 in
theorem run_impl_2 : runA Try.prog known 200 7 (([mL, unitL 2] : List (List T)).map fun l => .agg (cells l)) (solveFacts l0 l0 l1) (isTup (solL l0 l0 l1) 0) = true := by kernel_rfl

end Go.Proofs.Ytcoediecgmdkpaa
