/- All printed functions of this part. -/
import Derived.Test.YtoanmomopcaikaaFnS0
import Derived.Test.YtoanmomopcaikaaFnS1
import Derived.Test.YtoanmomopcaikaaFnS2
import Derived.Test.YtoanmomopcaikaaFnS3
namespace Go.Proofs.Ytoanmomopcaikaa.D
end Go.Proofs.Ytoanmomopcaikaa.D
