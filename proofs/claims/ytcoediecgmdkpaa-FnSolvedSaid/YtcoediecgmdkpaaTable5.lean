/-
  The functions known beforehand where the law of solved systems is run on symbols. Conditions: none.
-/
import Derived.Test.YtcoediecgmdkpaaKnown
import Derived.Test.YtcoediecgmdkpaaSx45
namespace Go.Proofs.Ytcoediecgmdkpaa
open Go.Sx

def argsFrom (i : Nat) : Nat → List SV
  | 0 => []
  | n + 1 => .flt .f32 (.arg i) :: argsFrom (i + 1) n
def longK : List V → Option Known
  | [.opq 0, .opq 1] => some (.val (.sc (.bool false)))
  | _ => none
def drawOfK (n i : Nat) : List V → Option Known
  | [.opq 0] => some (.val (.agg (argsFrom i n)))
  | _ => none
def drawTwoK (n i : Nat) : List V → Option Known
  | [.opq 1] => some (.val (.agg (argsFrom i n)))
  | _ => none
def atK (k : Nat) : List V → Option Known
  | [.opq 1, .sc (.int .i64 0), .sc (.int .i64 3)] => some (.val (.sc (.int .i64 k)))
  | _ => none

def heavyS (f : FuncId) (args : List V) : Option Known :=
  match f with
  | 22 => drawOfK 9 0 args
  | _ => known f args

def solS (k : Nat) (f : FuncId) (args : List V) : Option Known :=
  match f with
  | 4 => longK args
  | 5 => drawOfK 9 0 args
  | 6 => drawTwoK 3 9 args
  | 21 => atK k args
  | 7 => tabK (lastE k :: solveE) args
  | 30 => tabK solveE args
  | 19 => tabK rootE args
  | 20 => tabK rootE args
  | _ => known f args
end Go.Proofs.Ytcoediecgmdkpaa
