/-
  The runs of 'FnSolved' and of what it calls, on symbols. Conditions: none.
-/
import Derived.Test.YtcoediecgmdkpaaTable5
namespace Go.Proofs.Ytcoediecgmdkpaa
open Go.Sx

set_option maxRecDepth 100000 in
theorem run_last_A : runA Try.prog known 200 7 (([zeroRow 0, vL] : List (List T)).map fun l => .agg (cells l)) (lastFin ++ (lastA)) (isTup ([l0, l0, l0]) 4) = true := by kernel_rfl

set_option maxRecDepth 100000 in
theorem run_last_B1 : runA Try.prog known 200 7 (([zeroRow 0, vL] : List (List T)).map fun l => .agg (cells l)) (lastFin ++ (preB ++ tailW 3 6)) (isTup ([l0, l0, l0]) 4) = true := by kernel_rfl

set_option maxRecDepth 100000 in
theorem run_last_B2 : runA Try.prog known 200 7 (([zeroRow 0, vL] : List (List T)).map fun l => .agg (cells l)) (lastFin ++ (preB ++ tailZ 3 6)) (isTup ([l0, l0, l0]) 4) = true := by kernel_rfl

set_option maxRecDepth 100000 in
theorem run_last_C1 : runA Try.prog known 200 7 (([zeroRow 0, vL] : List (List T)).map fun l => .agg (cells l)) (lastFin ++ (preC ++ tailC 6 3)) (isTup ([l0, l0, l0]) 4) = true := by kernel_rfl

set_option maxRecDepth 100000 in
theorem run_last_C2 : runA Try.prog known 200 7 (([zeroRow 0, vL] : List (List T)).map fun l => .agg (cells l)) (lastFin ++ (preC ++ tailD 6 3)) (isTup ([l0, l0, l0]) 4) = true := by kernel_rfl

end Go.Proofs.Ytcoediecgmdkpaa
