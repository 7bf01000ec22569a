/-
  The functions known beforehand where the laws of vectors and of matrices are run on symbols: the draws give arguments, a text is read back as what it was written of. Conditions: none.
-/
import Derived.Test.YtmieiaakjiklfaaDoorKnown
import Derived.Test.YtmieiaakjiklfaaDoorSx33
namespace Go.Proofs.YtmieiaakjiklfaaDoor
open Go.Sx

def termsOf : List SV → Option (List T)
  | [] => some []
  | .flt .f32 (.arg i) :: r => (termsOf r).map (T.arg i :: ·)
  | _ => none
def ofTerms (l : List T) : List SV := l.map (.flt .f32 ·)
def argsFrom (i : Nat) : Nat → List SV
  | 0 => []
  | n + 1 => .flt .f32 (.arg i) :: argsFrom (i + 1) n

def longK : List V → Option Known
  | [.opq 0, .opq 1] => some (.val (.sc (.bool false)))
  | _ => none
/-- A draw of n numbers, of the first bytes from argument i on, of the others from j on. -/
def drawK (n i j : Nat) : List V → Option Known
  | [.opq 0] => some (.val (.agg (argsFrom i n)))
  | [.opq 1] => some (.val (.agg (argsFrom j n)))
  | _ => none
def drawOneK (i : Nat) : List V → Option Known
  | [.opq 1] => some (.val (.sc (.flt .f32 (.arg i))))
  | _ => none
def drawOfK (n i : Nat) : List V → Option Known
  | [.opq 0] => some (.val (.agg (argsFrom i n)))
  | _ => none
def textK (n : Nat) : List V → Option Known
  | [.agg l] => match termsOf l with
    | some ts => if Nat.beq ts.length n then some (.val (.txt n ts)) else none
    | none => none
  | _ => none
def isArg : T → Bool
  | .arg _ => true
  | _ => false
def readK (n : Nat) : List V → Option Known
  | [.txt m ts] => if Nat.beq m n && Nat.beq ts.length n && ts.all isArg then some (.val (.tup (.agg (ofTerms ts)) (.sc (.int .i64 0)))) else none
  | _ => none
def textOneK : List V → Option Known
  | [.sc (.flt .f32 (.arg i))] => some (.val (.txt 1 [.arg i]))
  | _ => none
def readOneK : List V → Option Known
  | [.txt 1 [.arg i]] => some (.val (.tup (.sc (.flt .f32 (.arg i))) (.sc (.int .i64 0))))
  | _ => none

def matS (f : FuncId) (args : List V) : Option Known :=
  match f with
  | 5 => longK args
  | 6 => drawK 9 0 9 args
  | 7 => drawK 3 18 21 args
  | 21 => drawOneK 24 args
  | 20 => textK 9 args
  | 19 => readK 9 args
  | 23 => textOneK args
  | 22 => readOneK args
  | _ => known f args

def vecS (f : FuncId) (args : List V) : Option Known :=
  match f with
  | 5 => longK args
  | 7 => drawK 3 0 3 args
  | 28 => drawOneK 6 args
  | 34 => drawOfK 3 7 args
  | 36 => textK 3 args
  | 35 => readK 3 args
  | _ => known f args
end Go.Proofs.YtmieiaakjiklfaaDoor
