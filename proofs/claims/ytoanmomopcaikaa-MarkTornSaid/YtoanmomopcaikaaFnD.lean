/- All printed functions of this part. -/
import Derived.Test.YtoanmomopcaikaaFnD0
import Derived.Test.YtoanmomopcaikaaFnD1
namespace Go.Proofs.Ytoanmomopcaikaa.D
end Go.Proofs.Ytoanmomopcaikaa.D
