/-
  The runs of 'FnSolved' and of what it calls, on symbols. Conditions: none.
-/
import Derived.Test.YtcoediecgmdkpaaTable5
namespace Go.Proofs.Ytcoediecgmdkpaa
open Go.Sx

set_option maxRecDepth 100000 in
theorem run_last_N1 : runA Try.prog known 200 7 (([zeroRow 0, vL] : List (List T)).map fun l => .agg (cells l)) (lastFin ++ (preN ++ tailC 6 3)) (isTup ([l0, l0, l0]) 4) = true := by kernel_rfl

set_option maxRecDepth 100000 in
theorem run_last_N2 : runA Try.prog known 200 7 (([zeroRow 0, vL] : List (List T)).map fun l => .agg (cells l)) (lastFin ++ (preN ++ tailD 6 3)) (isTup ([l0, l0, l0]) 4) = true := by kernel_rfl

set_option maxRecDepth 100000 in
theorem run_last_D1 : runA Try.prog known 200 7 (([zeroRow 1, vL] : List (List T)).map fun l => .agg (cells l)) (lastFin ++ (preD ++ tailW 0 6)) (isTup ([l0, l0, l0]) 4) = true := by kernel_rfl

set_option maxRecDepth 100000 in
theorem run_last_D2 : runA Try.prog known 200 7 (([zeroRow 1, vL] : List (List T)).map fun l => .agg (cells l)) (lastFin ++ (preD ++ tailZ 0 6)) (isTup ([l0, l0, l0]) 4) = true := by kernel_rfl

set_option maxRecDepth 100000 in
theorem run_last_K1 : runA Try.prog known 200 7 (([zeroRow 2, vL] : List (List T)).map fun l => .agg (cells l)) (lastFin ++ (preK ++ tailC 0 3)) (isTup ([l0, l0, l0]) 4) = true := by kernel_rfl

set_option maxRecDepth 100000 in
theorem run_last_K2 : runA Try.prog known 200 7 (([zeroRow 2, vL] : List (List T)).map fun l => .agg (cells l)) (lastFin ++ (preK ++ tailD 0 3)) (isTup ([l0, l0, l0]) 4) = true := by kernel_rfl

end Go.Proofs.Ytcoediecgmdkpaa
