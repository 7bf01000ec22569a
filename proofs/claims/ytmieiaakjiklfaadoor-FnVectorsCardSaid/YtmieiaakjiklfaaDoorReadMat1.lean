/-
  The reference's ReadMat. Conditions: the text is not too long.
-/
import Derived.Test.YtmieiaakjiklfaaDoorReadMatSpec
namespace Go.Proofs.YtmieiaakjiklfaaDoor
open Go.RowKit Go.Lib

end Go.Proofs.YtmieiaakjiklfaaDoor
