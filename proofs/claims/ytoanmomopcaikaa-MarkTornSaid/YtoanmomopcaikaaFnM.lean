/- All printed functions of this part. -/
import Derived.Test.YtoanmomopcaikaaFnD
import Derived.Test.YtoanmomopcaikaaFnM0
import Derived.Test.YtoanmomopcaikaaFnM1
namespace Go.Proofs.Ytoanmomopcaikaa.D
end Go.Proofs.Ytoanmomopcaikaa.D
