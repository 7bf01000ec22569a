/-
  The elimination as a known function. Conditions: none.
-/
import Derived.Test.YtljmfmbfgggndaaSolve37x0
import Derived.Test.YtljmfmbfgggndaaSolve37x1
import Derived.Test.YtljmfmbfgggndaaSolve37x2
import Derived.Test.YtljmfmbfgggndaaSolve37x3
import Derived.Test.YtljmfmbfgggndaaSolve37x4
import Derived.Test.YtljmfmbfgggndaaSolve37x5
import Derived.Test.YtljmfmbfgggndaaSolve37x6
import Derived.Test.YtljmfmbfgggndaaSolve37x7
import Derived.Test.YtljmfmbfgggndaaSolve69x0
import Derived.Test.YtljmfmbfgggndaaSolve69x1
import Derived.Test.YtljmfmbfgggndaaSolve69x2
import Derived.Test.YtljmfmbfgggndaaSolve69x3
import Derived.Test.YtljmfmbfgggndaaSolve69x4
import Derived.Test.YtljmfmbfgggndaaSolve69x5
import Derived.Test.YtljmfmbfgggndaaSolve69x6
import Derived.Test.YtljmfmbfgggndaaSolve69x7
namespace Go.Proofs.Ytljmfmbfgggndaa
open Go.Sx

theorem solves37 (t u w : Bool) : runA Try.prog known 100 37 [.agg (protoL 0 9), .agg (protoL 9 3)] (pivFacts t u w) (treeOut solveTree) = true :=
  match t, u, w with
  | false, false, false => solve37x0
  | false, false, true => solve37x1
  | false, true, false => solve37x2
  | false, true, true => solve37x3
  | true, false, false => solve37x4
  | true, false, true => solve37x5
  | true, true, false => solve37x6
  | true, true, true => solve37x7

theorem solves69 (t u w : Bool) : runA Try.prog known 100 69 [.agg (protoL 0 9), .agg (protoL 9 3)] (pivFacts t u w) (treeOut solveTree) = true :=
  match t, u, w with
  | false, false, false => solve69x0
  | false, false, true => solve69x1
  | false, true, false => solve69x2
  | false, true, true => solve69x3
  | true, false, false => solve69x4
  | true, false, true => solve69x5
  | true, true, false => solve69x6
  | true, true, true => solve69x7
def knownS (f : FuncId) (args : List V) : Option Known :=
  match f with
  | 37 => tree2K 9 3 solveTree args
  | 69 => tree2K 9 3 solveTree args
  | _ => known f args

set_option maxRecDepth 100000 in
theorem knownS_ok (E : Env) (h1 : E.f1 = g1) (h2 : E.f2 = g2) : SumOK E Try.prog knownS := by
  intro f args kn h
  unfold knownS at h
  split at h
  · exact fun β vals W hv => tree2K_ok mixed names (fun E' e1 e2 => known_ok E' (e1.trans h1) (e2.trans h2)) (piv_runs solves37) h hv
  · exact fun β vals W hv => tree2K_ok mixed names (fun E' e1 e2 => known_ok E' (e1.trans h1) (e2.trans h2)) (piv_runs solves69) h hv
  · exact known_ok E h1 h2 f args kn h

end Go.Proofs.Ytljmfmbfgggndaa
