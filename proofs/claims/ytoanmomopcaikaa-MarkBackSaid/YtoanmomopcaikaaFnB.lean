/- All printed functions of this part. -/
import Derived.Test.YtoanmomopcaikaaFnM
import Derived.Test.YtoanmomopcaikaaFnN
import Derived.Test.YtoanmomopcaikaaFnB0
namespace Go.Proofs.Ytoanmomopcaikaa.D
end Go.Proofs.Ytoanmomopcaikaa.D
