/- All printed functions of this part. -/
import Derived.Test.YtoanmomopcaikaaFnD
import Derived.Test.YtoanmomopcaikaaFnM
import Derived.Test.YtoanmomopcaikaaFnN0
import Derived.Test.YtoanmomopcaikaaFnN1
namespace Go.Proofs.Ytoanmomopcaikaa.D
end Go.Proofs.Ytoanmomopcaikaa.D
