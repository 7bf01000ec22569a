/-
  The law 'FnExactReadVec': its walk. Conditions: what the library's variables hold.
-/
import Derived.Test.YtmieiaakjiklfaaDoorReadVec2
import Derived.Test.YtmieiaakjiklfaaDoorLawReadNumber
namespace Go.Proofs.YtmieiaakjiklfaaDoor
open Go.RowKit Go.Sx

end Go.Proofs.YtmieiaakjiklfaaDoor
