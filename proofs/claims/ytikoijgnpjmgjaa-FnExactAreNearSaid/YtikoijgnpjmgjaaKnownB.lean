/-
  More functions of this seat's program that the run on symbols takes as known: what each gives is proved here. Conditions: none.
-/
import Derived.Test.YtikoijgnpjmgjaaKnown
import Derived.Test.YtikoijgnpjmgjaaSx15
namespace Go.Proofs.Ytikoijgnpjmgjaa
open Go.Sx

set_option maxRecDepth 100000 in
theorem ran59 : runA Try.prog exts 60 59 [.sc (.flt .f32 (.arg 0))] sizeFs (isFlt .f32 (sizeT)) = true := by kernel_rfl
def knownB (f : FuncId) (args : List V) : Option Known :=
  match f with
  | 59 => un32K (T.abs .f32) args
  | _ => known f args

set_option maxRecDepth 100000 in
theorem knownB_ok (E : Env) (h1 : E.f1 = g1) (h2 : E.f2 = g2) : SumOK E Try.prog knownB := by
  intro f args kn h
  unfold knownB at h
  split at h
  · exact fun β vals W hv => un32K_ok mixed names (fun E' e1 _ => exts_ok E' (e1.trans h1)) ran59 (fun b E' _ _ e => sizeFs_ok b E' e) (fun b E' t _ _ e et => sizeT_val b E E' t e et) h hv
  · exact known_ok E h1 h2 f args kn h

end Go.Proofs.Ytikoijgnpjmgjaa
