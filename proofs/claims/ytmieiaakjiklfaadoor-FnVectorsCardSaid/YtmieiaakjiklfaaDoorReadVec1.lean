/-
  The reference's ReadVec. Conditions: the text is not too long.
-/
import Derived.Test.YtmieiaakjiklfaaDoorReadVecSpec
namespace Go.Proofs.YtmieiaakjiklfaaDoor
open Go.RowKit Go.Lib

end Go.Proofs.YtmieiaakjiklfaaDoor
